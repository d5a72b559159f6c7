/-
 slab.Of: a contract.
-/
import Derived.Test.YtodgfbjjjgohgaaGreatKlZ
import Derived.Test.YtodgfbjjjgohgaaGreatFiZ
import Derived.RangeFuncWrites
import Derived.RangeFuncCalls
import Derived.Carry
import Derived.Maps.OwnIn
namespace Go.Proofs.YtodgfbjjjgohgaaGreat
open Go.RowKit Go.Maps Go.Shelf
attribute [local go_sem] Oper.semAt_some
set_option linter.unusedVariables false

/-! . -/
theorem make_hd (n : Nat) (hn : n <= 1000) : ∃ C : Array Value,(∀ W : World,(Instr.makeSlice 110 (.int .i64 (n : Int)) (.int .i64 (n : Int))).run Tryz.prog W = .ok (.slice (some ⟨W.heap.size,0,none⟩) n n) (W.alloc (.cells C 122))) ∧
  C.size = 2 * n /\ ∀ i,i < n -> ∃ a b,C[i * 2]? = some (.int .i64 a) /\ C[i * 2 + 1]? = some (.int .u64 b) := by
 obtain ⟨i0,hi,hz0,hz1,hz2⟩ : ∃ i,Tryz.prog.info? 122 = some i /\ i.zero = some (.agg #[.int .i64 0,.int .u64 0]) /\ i.size = 2 /\ i.bytes = 16 := by
  have h1 : ((Tryz.prog.info? 122).map (·.size)) = some 2 := by kernel_rfl
  have h2 : ((Tryz.prog.info? 122).map (·.bytes)) = some 16 := by kernel_rfl
  have h3 : ((Tryz.prog.info? 122).bind (·.zero)) = some (.agg #[.int .i64 0,.int .u64 0]) := by kernel_rfl
  cases h : Tryz.prog.info? 122 with
  | none => rw [h] at h1;cases h1
  | some i =>
   rw [h] at h1 h2 h3
   exact ⟨i,rfl,h3,Option.some.inj h1,Option.some.inj h2⟩
 refine ⟨madeCells (Value.agg #[.int .i64 0,.int .u64 0]).cells (n * 2),fun W => ?_,by rw [size_madeCells];omega,fun i hi => ⟨0,0,?_,?_⟩⟩
 ·have h := run_make (P := Tryz.prog) W 110 122 i0 _ Tryz.underlying110 hi hz0 .i64 .i64 (n : Int) (n : Int) (by omega) (by omega) (by rw [hz2];omega) (by omega)
  rw [hz1,Int.toNat_natCast] at h
  exact h
 ·have h2 : i * 2 % 2 = 0 := by omega
  unfold madeCells
  rw [Array.getElem?_map,Array.getElem?_range,if_pos (by omega)]
  show some ((#[Value.int .i64 0,.int .u64 0] : Array Value)[i * 2 % 2]!) = _
  rw [h2];rfl
 ·have h2 : (i * 2 + 1) % 2 = 1 := by omega
  unfold madeCells
  rw [Array.getElem?_map,Array.getElem?_range,if_pos (by omega)]
  show some ((#[Value.int .i64 0,.int .u64 0] : Array Value)[(i * 2 + 1) % 2]!) = _
  rw [h2];rfl
/-! . -/
def markD (D : Nat) : Deferred := { target := .collected D,args := #[] }
def Marks (B : Nat) (W : World) (Ds : List Nat) : Prop := Ds.Nodup /\ ∀ D ∈ Ds,B <= D /\ W.heap[D]? = some (.deferred (some []))
theorem Marks.kept {B B' : Nat} {W W' : World} {Ds : List Nat} (h : Marks B W Ds) (hk : KpT B' W W') : Marks B W' Ds := by
 refine ⟨h.1,fun D hD => ⟨(h.2 D hD).1,?_⟩⟩
 have h1 := (h.2 D hD).2
 refine (hk.block D (Array.getElem?_eq_some_iff.1 h1).1 (fun e => ?_)).trans h1
 obtain ⟨_,⟨C,t,he,_⟩ | ⟨es,c,he⟩⟩ := e
 ·rw [h1] at he;cases he
 ·rw [h1] at he;cases he
theorem putDef_keeps {B : Nat} {W : World} {D : Nat} {x : Option (List Deferred)} (hB : B <= D) (h : W.heap[D]? = some (.deferred x)) : Keeps (fun i => B <= i /\ ∃ x,W.heap[i]? = some (.deferred x)) W (W.putObj D (.deferred none)) :=
 (Keeps.refl _ W).grown (grownBy_putObj' W D (.deferred none)) (fun k hk => by cases hk;exact .inl ⟨hB,_,h⟩)
theorem leaves_marks {B n : Nat} {P : Program} {fn : Func} {tmps : Array Value} {R : Ending -> World -> Prop} : ∀ (Ds : List Nat) (W : World),Marks B W Ds →
  (∀ W',Keeps (fun i => B <= i /\ ∃ x,W.heap[i]? = some (.deferred x)) W W' -> LeavesIn Fence.wide n P fn tmps R [] .returning W') -> LeavesInM Fence.wide n P fn tmps R (Ds.map markD) .returning W
 | [],W,_,h => h W (Keeps.refl _ _)
 | D :: Ds,W,hm,h => by
  have h1 := hm.2 D (List.mem_cons_self)
  have hk := putDef_keeps h1.1 h1.2
  have hmem : ∀ i,(∃ x,(W.putObj D (.deferred none)).heap[i]? = some (.deferred x)) -> i < W.heap.size -> ∃ x,W.heap[i]? = some (.deferred x) := fun i ⟨x,hx⟩ hi => by
   by_cases e : i = D
   ·rw [e];exact ⟨_,h1.2⟩
   ·have := (grownBy_putObj' W D (.deferred none)).block i hi (fun e2 => e (by cases e2;rfl))
    rw [this] at hx
    exact ⟨x,hx⟩
  refine ⟨by simp,.inl ⟨D,_,rfl,run_takeDeferred h1.2,leaves_marks Ds _ ⟨(List.nodup_cons.1 hm.1).2,fun D' hD' => ⟨(hm.2 D' (List.mem_cons_of_mem _ hD')).1,?_⟩⟩ (fun W' hW' => h W' (hk.trans' hW' (fun i hi e => ⟨e.1,hmem i e.2 hi⟩)))⟩⟩
  have h2 := (hm.2 D' (List.mem_cons_of_mem _ hD')).2
  have hne : D' ≠ D := fun e => (List.nodup_cons.1 hm.1).1 (e ▸ hD')
  exact ((grownBy_putObj' W D (.deferred none)).block D' (Array.getElem?_eq_some_iff.1 h2).1 (fun e2 => hne (by cases e2;rfl))).trans h2
/-! . -/
def slP (N hb sl : Nat) (f : Nat -> Nat) (k mb : Nat) : Array Value := #[.int .i64 N,.slice (some ⟨hb,0,none⟩) (1 + sl) (1 + sl),.pointer (if 0 < k then some ⟨f 0,0,none⟩ else none),.pointer (if 1 < k then some ⟨f 1,0,none⟩ else none),.pointer (if 2 < k then some ⟨f 2,0,none⟩ else none),.pointer (if 3 < k then some ⟨f 3,0,none⟩ else none),.map (some mb)]
structure SlP (B : Nat) (W : World) (sb hb mb N sl : Nat) (f : Nat -> Nat) (v : Nat -> Value) (k : Nat) : Prop where
 slab : Blk W sb (slP N hb sl f k mb) 115
 hd : HdB W hb sl
 set : ∀ c,c < k -> SetV W (f c) (v c) []
 map : ∃ D : DataW Unit,W.ownsMap Tryz.prog 39 (plainElem Tryz.prog 3) mb 0 D
 fne : ∀ c c',c < k -> c' < k -> c ≠ c' -> f c ≠ f c'
 vne : ∀ c c',c < k -> c' < k -> c ≠ c' -> ∀ g,(v c).ownBlock = some g -> (v c').ownBlock ≠ some g
 base : B <= sb /\ B <= hb /\ B <= mb /\ ∀ c,c < k -> B <= f c /\ ∀ g,(v c).ownBlock = some g -> B <= g
theorem SlP.all {B : Nat} {W : World} {sb hb mb N sl : Nat} {f : Nat -> Nat} {v : Nat -> Value} (h : SlP B W sb hb mb N sl f v 4) : SlS B W sb hb mb N sl f v (fun _ => []) 0 0 :=
 ⟨h.slab,h.hd,fun c hc => ⟨h.set c hc,Nat.le_refl _⟩,h.map,h.fne,h.vne,h.base.2⟩
theorem slP_set (N hb sl : Nat) (f : Nat -> Nat) (k mb g : Nat) (hk : k < 4) : (slP N hb sl f k mb).setIfInBounds (2 + k) (.pointer (some ⟨g,0,none⟩)) = slP N hb sl (fun i => if i = k then g else f i) (k + 1) mb := by
 obtain rfl | rfl | rfl | rfl : k = 0 ∨ k = 1 ∨ k = 2 ∨ k = 3 := by omega
 all_goals rfl
theorem slP_get (N hb sl : Nat) (f : Nat -> Nat) (k mb : Nat) (hk : k < 4) : (slP N hb sl f k mb)[2 + k]? = some (.pointer none) := by
 obtain rfl | rfl | rfl | rfl : k = 0 ∨ k = 1 ∨ k = 2 ∨ k = 3 := by omega
 all_goals rfl
theorem SlP.below {B : Nat} {W W' : World} {sb hb mb N sl : Nat} {f : Nat -> Nat} {v : Nat -> Value} {k : Nat} (h : SlP B W sb hb mb N sl f v k) (hB : Below W.heap.size W W') : SlP B W' sb hb mb N sl f v k := by
 obtain ⟨D,hD⟩ := h.map
 have hk := Keeps.of_below' hB
 exact ⟨h.slab.kept hk (fun e => e),h.hd.kept hk (fun e => e),fun c hc => (h.set c hc).kept hk (fun e => e) (fun _ _ e => e),⟨D,own_mapK hD hk (fun e => e)⟩,h.fne,h.vne,h.base⟩
theorem SlP.more {B : Nat} {W W1 : World} {sb hb mb N sl : Nat} {f : Nat -> Nat} {v : Nat -> Value} {k g : Nat} {vg : Value} (h : SlP B W sb hb mb N sl f v k) (hk : k < 4) (hB : Below W.heap.size W W1) (hg : W.heap.size <= g) (hs : SetV W1 g vg []) (hv : ∀ i,vg.ownBlock = some i -> W.heap.size <= i) (hBW : B <= W.heap.size) :
  SlP B (W1.setCell ⟨sb,2 + k,none⟩ (.pointer (some ⟨g,0,none⟩))) sb hb mb N sl (fun i => if i = k then g else f i) (fun i => if i = k then vg else v i) (k + 1) := by
 have h1 := h.below hB
 have hsb := h.slab.lt
 have hk1 : Keeps (fun i => i = sb) W1 (W1.setCell ⟨sb,2 + k,none⟩ (.pointer (some ⟨g,0,none⟩))) := (Keeps.refl (fun i => i = sb) W1).setCell (p := ⟨sb,2 + k,none⟩) (.inl rfl) _
 obtain ⟨D,es,clock,hm1,hm2⟩ := h1.map
 obtain ⟨CH,hH,_⟩ := h1.hd
 refine ⟨?_,h1.hd.kept hk1 (blk_ne hH h1.slab (by decide)),fun c hc => ?_,⟨D,own_mapK ⟨es,clock,hm1,hm2⟩ hk1 (fun e => ?_)⟩,fun c c' hc hc' hne => ?_,fun c c' hc hc' hne i hi => ?_,h.base.1,h.base.2.1,h.base.2.2.1,fun c hc => ?_⟩
 ·have := h1.slab.set (2 + k) (.pointer (some ⟨g,0,none⟩))
  rw [slP_set N hb sl f k mb g hk] at this
  exact this
 ·by_cases e : c = k
  ·subst e
   simp only [if_pos]
   refine hs.kept hk1 (fun e => ?_) (fun i hi e => ?_)
   ·omega
   ·have := hv i hi;omega
  ·simp only [if_neg e]
   refine (h1.set c (by omega)).kept hk1 (fun e => ?_) (fun i hi e => ?_)
   ·exact blk_ne (h1.set c (by omega)).hv.blk h1.slab (by decide) e
   ·obtain ⟨C1,h2⟩ := own_type (h1.set c (by omega)).hv.row hi
    exact blk_ne h2 h1.slab (by decide) e
 ·have h2 := h1.slab
  unfold Blk at h2
  rw [e,h2] at hm1
  cases hm1
 ·try dsimp only
  by_cases e : c = k
  ·subst e
   rw [if_pos rfl,if_neg (fun e => hne e.symm)]
   have := (h.set c' (by omega)).hv.blk.lt
   omega
  ·rw [if_neg e]
   by_cases e2 : c' = k
   ·subst e2
    rw [if_pos rfl]
    have := (h.set c (by omega)).hv.blk.lt
    omega
   ·rw [if_neg e2]
    exact h.fne c c' (by omega) (by omega) hne
 ·try dsimp only at hi ⊢
  by_cases e : c = k
  ·subst e
   rw [if_pos rfl] at hi
   rw [if_neg (fun e => hne e.symm)]
   intro e3
   obtain ⟨C1,h2⟩ := own_type (h.set c' (by omega)).hv.row e3
   have := (show Blk W i C1 _ from h2).lt
   have := hv i hi
   omega
  ·rw [if_neg e] at hi
   by_cases e2 : c' = k
   ·subst e2
    rw [if_pos rfl]
    intro e3
    obtain ⟨C1,h2⟩ := own_type (h.set c (by omega)).hv.row hi
    have := (show Blk W i C1 _ from h2).lt
    have := hv i e3
    omega
   ·rw [if_neg e2]
    exact h.vne c c' (by omega) (by omega) hne i hi
 ·try dsimp only
  by_cases e : c = k
  ·subst e
   rw [if_pos rfl,if_pos rfl]
   exact ⟨by omega,fun i hi => by have := hv i hi;omega⟩
  ·rw [if_neg e,if_neg e]
   exact h.base.2.2.2 c (by omega)
def NewF (B : Nat) (v : Value) (W : World) : Prop := ∃ g vg,v = .pointer (some ⟨g,0,none⟩) /\ SetV W g vg [] /\ B <= g /\ ∀ i,vg.ownBlock = some i -> B <= i
theorem NewF.kept {S : Nat -> Prop} {B : Nat} {v : Value} {W W' : World} (h : NewF B v W) (hk : Keeps S W W') (hS : ∀ i,B <= i -> ¬ S i) : NewF B v W' := by
 obtain ⟨g,vg,h1,h2,h3,h4⟩ := h
 exact ⟨g,vg,h1,h2.kept hk (hS g h3) (fun i hi => hS i (h4 i hi)),h3,h4⟩
/-! . -/
def P8 (B : Nat) (v : Value) (W : World) : Prop := ∃ g x,v = .pointer (some ⟨g,0,none⟩) /\ B <= g /\ Blk W g #[x] 25
theorem P8.stay {B : Nat} {v : Value} {W W' : World} (h : P8 B v W) (hR : Below W.heap.size W W' ∨ ∃ g y,W' = W.setCell ⟨g,0,none⟩ y) : P8 B v W' := by
 obtain ⟨g,x,h1,h2,h3⟩ := h
 rcases hR with hB | ⟨g',y,rfl⟩
 ·exact ⟨g,x,h1,h2,h3.kept (Keeps.of_below' hB) (fun e => e)⟩
 ·by_cases e : g = g'
  ·subst e
   exact ⟨g,y,h1,h2,h3.set 0 y⟩
  ·exact ⟨g,x,h1,h2,h3.other 0 y e⟩
structure Of13 (wr : World) (cv : Int) (L : Nat -> Bool) (A : Act) (W : World) : Prop where
 b : Below wr.heap.size wr W
 y : L 9 = true -> ∃ g,A.tmps[9]?.getD undef = .pointer (some ⟨g,0,none⟩) /\ wr.heap.size <= g /\ Blk W g #[.int .u64 cv] 25
theorem Of13.keep {wr : World} {cv : Int} {L L' : Nat -> Bool} {A : Act} {W : World} {d : Option Tmp} {v : Value} (h : Of13 wr cv L A W) (h9 : L' 9 = L 9) (hd : d ≠ some 9) : Of13 wr cv L' (A.put d v) W :=
 ⟨h.b,by rw [h9,put_neK hd];exact h.y⟩
theorem Of13.s9 {wr : World} {cv : Int} {L : Nat -> Bool} {A A' : Act} {W : World} {g : Nat} {x : Value} (h : Of13 wr cv L A W) (hf : L 9 = false) (e9 : A.tmps[9]?.getD undef = .pointer (some ⟨g,0,none⟩)) (hg : wr.heap.size <= g) (hb : Blk W g #[x] 25) (hA : A'.tmps = A.tmps) : Of13 wr cv (lset L 9) A' (W.setCell ⟨g,0,none⟩ (.int .u64 cv)) :=
 ⟨h.b.setCell (p := ⟨g,0,none⟩) hg _,fun _ => ⟨g,by rw [hA];exact e9,hg,hb.set 0 _⟩⟩
structure OfR (w wr : World) (sb hb mb pb ib N sl i : Nat) (f : Nat -> Nat) (Ds : List Nat) : Prop where
 s : ∃ v l m n,SlS w.heap.size wr sb hb mb N sl f v l m n /\ n <= 100 * i /\ m <= 100 * i
 p : Blk wr pb #[.pointer (some ⟨sb,0,none⟩)] 81
 b : Blk wr ib #[.int .i64 (i : Int)] 3
 i1 : 1 <= i /\ i <= sl + 1
 m : Marks w.heap.size wr Ds
 k : Below w.heap.size w wr
 z : w.heap.size <= sb /\ w.heap.size <= ib
def iOf (a : Act) (w : World) : Nat := match a.tmps.getD 8 undef with
 | .pointer (some p) => match w.cell? p with
  | some (.int _ i) => 100 - i.toNat
  | _ => 0
 | _ => 0
/-! . -/
structure OfB (w w18 W : World) (sb hb mb pb ib g9 qb N sl i : Nat) (cv uv : Int) (f : Nat -> Nat) (Ds : List Nat) (k : Nat) : Prop where
 s : ∃ v l m n,SlS w.heap.size W sb hb mb N sl f v l m n /\ n <= 100 * i + 15 + k /\ m <= 100 * i + k
 p : Blk W pb #[.pointer (some ⟨sb,0,none⟩)] 81
 b : Blk W ib #[.int .i64 (i : Int)] 3
 g : Blk W g9 #[.int .u64 cv] 25
 q : Blk W qb #[.int .u64 uv] 25
 m : Marks w.heap.size W Ds
 k : Below w.heap.size w W
 z : w18.heap.size <= W.heap.size
def StB (B qb : Nat) (A C : World) : Prop := KeepsFrom B A C /\ KpB qb A C
theorem StB.trans {B qb : Nat} {A C E : World} (h : StB B qb A C) (k : StB B qb C E) : StB B qb A E := ⟨h.1.trans k.1,kpB_t h.2 k.2⟩
theorem StB.of_keeps {B qb : Nat} {S : Nat -> Prop} {A C : World} (h : Keeps S A C) (hS : ∀ i,S i -> i < B ∨ ∃ X t f,A.heap[i]? = some (.cells X t f)) (hq : ¬ S qb) : StB B qb A C := by
 refine ⟨⟨h.size,fun i o hB ho hc => ?_⟩,h.size,fun hlt => h.block qb hlt hq⟩
 rw [h.block i (Array.getElem?_eq_some_iff.1 ho).1 (fun e => ?_)]
 ·exact ho
 ·rcases hS i e with h1 | ⟨X,t,f,h1⟩
  ·omega
  ·rw [h1] at ho
   cases ho
   cases hc
theorem StB.of_below {B qb : Nat} {A C : World} (h : Below A.heap.size A C) : StB B qb A C := StB.of_keeps (Keeps.of_below' h) (fun _ e => e.elim) (fun e => e)
section
variable {w w18 W W' : World} {sb hb mb pb ib g9 qb N sl i : Nat} {cv uv : Int} {f : Nat -> Nat} {Ds : List Nat} {k : Nat}
theorem OfB.kept (h : OfB w w18 W sb hb mb pb ib g9 qb N sl i cv uv f Ds k) (hk : KpT w.heap.size W W') {k' : Nat} (hs : ∃ v l m n,SlS w.heap.size W' sb hb mb N sl f v l m n /\ n <= 100 * i + 15 + k' /\ m <= 100 * i + k') : OfB w w18 W' sb hb mb pb ib g9 qb N sl i cv uv f Ds k' :=
 ⟨hs,hk.blk h.p (by decide) (by decide) (by decide),hk.blk h.b (by decide) (by decide) (by decide),hk.blk h.g (by decide) (by decide) (by decide),hk.blk h.q (by decide) (by decide) (by decide),h.m.kept hk,h.k.trans (hk.below h.k.size),Nat.le_trans h.z hk.size⟩
theorem OfB.below (h : OfB w w18 W sb hb mb pb ib g9 qb N sl i cv uv f Ds k) (hB : Below W.heap.size W W') : OfB w w18 W' sb hb mb pb ib g9 qb N sl i cv uv f Ds k := by
 obtain ⟨v,l,m,n,hS,h1,h2⟩ := h.s
 exact h.kept (KpT.of_below hB) ⟨v,l,m,n,hS.below hB,h1,h2⟩
theorem OfB.grown {row : Option Nat} (h : OfB w w18 W sb hb mb pb ib g9 qb N sl i cv uv f Ds k) (hg : W.grownBy W' row) (hr : ∀ r,row = some r -> w18.heap.size <= r /\ ∃ o : Obj,W.heap[r]? = some o /\ o.isCells = false) (hlt : w.heap.size <= w18.heap.size /\ mb < w18.heap.size /\ ∀ D ∈ Ds,D < w18.heap.size) : OfB w w18 W' sb hb mb pb ib g9 qb N sl i cv uv f Ds k := by
 have hk : Keeps (fun x => row = some x) W W' := (Keeps.refl _ W).grown hg (fun _ e => .inl e)
 have hX : ∀ {x : Nat} {C : Array Value} {t : TypeId},Blk W x C t -> ¬ row = some x := fun {x C t} hb e => by
  obtain ⟨_,o,ho,hc⟩ := hr x e
  unfold Blk at hb
  rw [hb] at ho
  cases ho
  cases hc
 obtain ⟨v,l,m,n,hS,h1,h2⟩ := h.s
 obtain ⟨CH,hH,_⟩ := hS.hd
 refine ⟨⟨v,l,m,n,hS.kept hk (hX hS.slab) (hX hH) (fun e => by have := (hr mb e).1;omega) (fun c hc => ⟨?_,fun g hg => ?_⟩),h1,h2⟩,h.p.kept hk (hX h.p),h.b.kept hk (hX h.b),h.g.kept hk (hX h.g),h.q.kept hk (hX h.q),⟨h.m.1,fun D hD => ⟨(h.m.2 D hD).1,?_⟩⟩,h.k.grown hg h.k.size (fun r e => by have := (hr r e).1;omega),Nat.le_trans h.z hg.size⟩
 ·obtain ⟨C,h3⟩ := hS.f_blk hc
  exact hX h3
 ·obtain ⟨C,h3⟩ := hS.v_blk hc hg
  exact hX h3
 ·have h3 := (h.m.2 D hD).2
  exact (hk.block D (Array.getElem?_eq_some_iff.1 h3).1 (fun e => by have := (hr D e).1;have := hlt.2.2 D hD;omega)).trans h3
theorem OfB.drop {c : Nat} (h : OfB w w18 W sb hb mb pb ib g9 qb N sl i cv uv f Ds k) (hc : c < 4) (hk : k <= 100) (hi : i <= 100) (x : Int) :
  Calls Tryz.prog 47 #[.pointer (some ⟨f c,0,none⟩),.int .u64 x] W fun e w' => (∃ b,e = .returned (.bool b)) /\ (∃ v l m n,SlS w.heap.size w' sb hb mb N sl f v l m n /\ n <= 100 * i + 15 + (k + 1) /\ m <= 100 * i + k) /\ KpT w.heap.size W w' /\ StB w18.heap.size qb W w' := by
 obtain ⟨v,l,m,n,hS,h1,h2⟩ := h.s
 have hs := hS.set c hc
 refine (drop_v (f c) (v c) (l c) x W hs.1 (by omega)).mono ?_
 rintro e w' ⟨rfl,v',l',hsv,hpm,hst⟩
 have hln : l'.length <= n + 1 := by
  rw [hpm.length_eq]
  have := List.length_erase_le (a := x) (l := l c)
  omega
 have hz := hS.step hc h.k.size hsv hst hln
 refine ⟨⟨_,rfl⟩,⟨_,_,m,n + 1,hz.1,by omega,h2⟩,hz.2,StB.of_keeps hst.1 (fun j hj => ?_) (fun e => ?_)⟩
 ·rcases hj with rfl | e
  ·obtain ⟨C,h3⟩ := hS.f_blk hc
   exact .inr ⟨C,_,_,h3⟩
  ·obtain ⟨C,h3⟩ := hS.v_blk hc e
   exact .inr ⟨C,_,_,h3⟩
 ·rcases e with e | e
  ·obtain ⟨C,h3⟩ := hS.f_blk hc
   exact blk_ne h.q h3 (by decide) e
  ·obtain ⟨C,h3⟩ := hS.v_blk hc e
   exact blk_ne h.q h3 (by decide) rfl
end
def ImgOk (L : List UInt8) (sl : Nat) : Prop := 1 <= sl /\ sl <= 16 /\ L.length = 1024 * (sl + 1) ∧
 ∀ i,1 <= i -> i <= sl -> ∃ c m : Nat,wd ((L.drop (1024 * i)).take 8) = (c : Int) /\ wd ((L.drop (1024 * i + 8)).take 8) = (m : Int) /\ c <= 3 /\ m < 18446744073709551616 /\ mayBt m (blkK c : Int) = true
def SlabP (w w' : World) (e : Ending) (N sl : Nat) : Prop := ∃ sb hb mb f,e = .returned (.tuple #[.pointer (some ⟨sb,0,none⟩),.int .i64 0]) /\ Blk w' sb (slC N hb sl f mb) 115 /\ w.heap.size <= sb /\ Below w.heap.size w w'
def OfI (w : World) (gb cb sb hb mb pb N sl : Nat) (a' : Act) (w' : World) : Prop := ∃ (u1 u2 u3 u5 u7 u9 u10 u11 u12 u13 u14 u15 u16 u17 u18 u19 u20 u21 u22 u23 u24 u25 u26 u27 u28 u29 u30 u31 u32 u33 u34 u35 u36 u37 u38 u39 u40 u41 u42 u43 u44 u45 u46 u47 u48 u49 u50 u51 u52 u53 u54 u55 u56 u57 u58 u59 u60 u61 u62 u63 u64 u65 u66 u67 u68 u69 u70 u71 u72 u73 u74 u75 u76 u77 u78 u79 u80 u81 u82 u83 u84 u85 u86 u87 u88 u89 u90 u91 u92 u93 u94 u95 u96 u97 : Value) (ib i : Nat) (f : Nat -> Nat) (Ds : List Nat),Hid (OfR w w' sb hb mb pb ib N sl i f Ds) /\ a' = ⟨#[.slice (some ⟨gb,0,none⟩) N cb,u1,u2,u3,.int .i64 (sl : Int),u5,.pointer (some ⟨pb,0,none⟩),u7,.pointer (some ⟨ib,0,none⟩),u9,u10,u11,u12,u13,u14,u15,u16,u17,u18,u19,u20,u21,u22,u23,u24,u25,u26,u27,u28,u29,u30,u31,u32,u33,u34,u35,u36,u37,u38,u39,u40,u41,u42,u43,u44,u45,u46,u47,u48,u49,u50,u51,u52,u53,u54,u55,u56,u57,u58,u59,u60,u61,u62,u63,u64,u65,u66,u67,u68,u69,u70,u71,u72,u73,u74,u75,u76,u77,u78,u79,u80,u81,u82,u83,u84,u85,u86,u87,u88,u89,u90,u91,u92,u93,u94,u95,u96,u97],Ds.map markD⟩
theorem OfI.mk {w w' : World} {gb cb sb hb mb pb N sl : Nat} {u1 u2 u3 u5 u7 u9 u10 u11 u12 u13 u14 u15 u16 u17 u18 u19 u20 u21 u22 u23 u24 u25 u26 u27 u28 u29 u30 u31 u32 u33 u34 u35 u36 u37 u38 u39 u40 u41 u42 u43 u44 u45 u46 u47 u48 u49 u50 u51 u52 u53 u54 u55 u56 u57 u58 u59 u60 u61 u62 u63 u64 u65 u66 u67 u68 u69 u70 u71 u72 u73 u74 u75 u76 u77 u78 u79 u80 u81 u82 u83 u84 u85 u86 u87 u88 u89 u90 u91 u92 u93 u94 u95 u96 u97 : Value} {ib i : Nat} {f : Nat -> Nat} {Ds : List Nat} {ds : List Deferred} (h : OfR w w' sb hb mb pb ib N sl i f Ds) (hd : Ds.map markD = ds) :
  OfI w gb cb sb hb mb pb N sl ⟨#[.slice (some ⟨gb,0,none⟩) N cb,u1,u2,u3,.int .i64 (sl : Int),u5,.pointer (some ⟨pb,0,none⟩),u7,.pointer (some ⟨ib,0,none⟩),u9,u10,u11,u12,u13,u14,u15,u16,u17,u18,u19,u20,u21,u22,u23,u24,u25,u26,u27,u28,u29,u30,u31,u32,u33,u34,u35,u36,u37,u38,u39,u40,u41,u42,u43,u44,u45,u46,u47,u48,u49,u50,u51,u52,u53,u54,u55,u56,u57,u58,u59,u60,u61,u62,u63,u64,u65,u66,u67,u68,u69,u70,u71,u72,u73,u74,u75,u76,u77,u78,u79,u80,u81,u82,u83,u84,u85,u86,u87,u88,u89,u90,u91,u92,u93,u94,u95,u96,u97],ds⟩ w' := by
 subst hd
 exact ⟨u1,u2,u3,u5,u7,u9,u10,u11,u12,u13,u14,u15,u16,u17,u18,u19,u20,u21,u22,u23,u24,u25,u26,u27,u28,u29,u30,u31,u32,u33,u34,u35,u36,u37,u38,u39,u40,u41,u42,u43,u44,u45,u46,u47,u48,u49,u50,u51,u52,u53,u54,u55,u56,u57,u58,u59,u60,u61,u62,u63,u64,u65,u66,u67,u68,u69,u70,u71,u72,u73,u74,u75,u76,u77,u78,u79,u80,u81,u82,u83,u84,u85,u86,u87,u88,u89,u90,u91,u92,u93,u94,u95,u96,u97,ib,i,f,Ds,Lib.hid h,rfl⟩
set_option maxRecDepth 1000000 in
set_option maxHeartbeats 40000000 in
theorem slabOf_v (w : World) (gb cb : Nat) (L : List UInt8) (sl : Nat) (hI : ImgOk L sl) (hb : BytesAt w gb 0 L) :
  Calls Tryz.prog 24 #[.slice (some ⟨gb,0,none⟩) L.length cb] w fun e w' => SlabP w w' e L.length sl := by
 refine callsIn_wide.1 (callsIn_of_wp_marks (n := 9) Tryz.func24 rfl trivial (wpIn_wide.2 ?_) rfl)
 simp only [Tryz.ntmps24,List.size_toArray,List.length_cons,List.length_nil,Nat.reduceAdd,Nat.reduceSub,Array.replicate_succ,Array.replicate_zero,List.push_toArray,List.append_toArray,List.nil_append,List.cons_append]
 obtain ⟨Q0,hQ0⟩ : ∃ Q,bodyPostM Fence.wide 9 Tryz.prog Tryz.f24 (fun e w' => SlabP w w' e L.length sl) = Q := ⟨_,rfl⟩
 have HQ0 := Lib.hid hQ0
 rw [hQ0]
 have hN := hI.2.2.1
 obtain ⟨N,hNN⟩ : ∃ N,L.length = N := ⟨_,rfl⟩
 have HI := Lib.hid hI
 have HBy := Lib.hid hb
 have HGs := Lib.hid (fun W => gslabs_v sl ⟨hI.1,by have := hI.2.1;omega⟩ W)
 have hs16 : (sl : Int) <= 16 := by have := hI.2.1;omega
 rw [<- hN,hNN] at HGs
 rw [hNN]
 have HNn := Lib.hid hNN
 have HNs := Lib.hid (hNN.symm.trans hN)
 have hNi : (N : Int) <= 17408 := by have := hI.2.1;omega
 obtain ⟨n1,hn1⟩ : ∃ n1,1 + sl = n1 := ⟨_,rfl⟩
 obtain ⟨CH,hmk,hCs,hCp⟩ := make_hd n1 (by have := hI.2.1;omega)
 have hsw : (1 : Int) + (sl : Int) = (n1 : Int) := by omega
 have HCH := Lib.hid (And.intro hCs (And.intro hCp hn1))
 have hmm := @run_makeMap Tryz.prog
 clear hI hb hN hNN hQ0 hCs hCp hn1
 obtain ⟨B,hB0⟩ : ∃ B,w.heap.size = B := ⟨_,rfl⟩
 have HBz := Lib.hid hB0
 go_upto_region 4 with (go_at_call 37;refine (HGs.out _).mono ?_;rintro e w1 ⟨rfl,rfl⟩)
 go_upto_region 6 with (fail)
 obtain ⟨w4,hw4⟩ : ∃ w4,(((w.alloc (.cells CH 122)).alloc (.map #[] 0)).alloc (.cells #[.int .i64 N,.slice (some ⟨B,0,none⟩) n1 n1,.pointer none,.pointer none,.pointer none,.pointer none,.map (some (B + 1))] 115)).alloc (.cells #[.pointer (some ⟨B + 1 + 1,0,none⟩)] 81) = w4 := ⟨_,rfl⟩
 rw [hw4]
 have hSP : SlP B w4 (B + 1 + 1) B (B + 1) N sl (fun _ => 0) (fun _ => .slice none 0 0) 0 /\ Blk w4 (B + 1 + 1 + 1) #[.pointer (some ⟨B + 1 + 1,0,none⟩)] 81 /\ Below B w w4 := by
  have e1 : (w.alloc (.cells CH 122)).heap.size = B + 1 := by rw [World.size_alloc,hB0]
  have e2 : ((w.alloc (.cells CH 122)).alloc (.map #[] 0)).heap.size = B + 1 + 1 := by rw [World.size_alloc,e1]
  have b1 := (((Blk.new w CH 122).alloc (.map #[] 0)).alloc (.cells #[.int .i64 N,.slice (some ⟨B,0,none⟩) n1 n1,.pointer none,.pointer none,.pointer none,.pointer none,.map (some (B + 1))] 115)).alloc (.cells #[.pointer (some ⟨B + 1 + 1,0,none⟩)] 81)
  rw [hB0,hw4] at b1
  have b2 := (Blk.new ((w.alloc (.cells CH 122)).alloc (.map #[] 0)) #[.int .i64 N,.slice (some ⟨B,0,none⟩) n1 n1,.pointer none,.pointer none,.pointer none,.pointer none,.map (some (B + 1))] 115).alloc (.cells #[.pointer (some ⟨B + 1 + 1,0,none⟩)] 81)
  rw [e2,hw4] at b2
  have b3 := Blk.new (((w.alloc (.cells CH 122)).alloc (.map #[] 0)).alloc (.cells #[.int .i64 N,.slice (some ⟨B,0,none⟩) n1 n1,.pointer none,.pointer none,.pointer none,.pointer none,.map (some (B + 1))] 115)) #[.pointer (some ⟨B + 1 + 1,0,none⟩)] 81
  rw [World.size_alloc,e2,hw4] at b3
  have m1 : (w.alloc (.cells CH 122)).alloc (.map #[] 0) |>.ownsMap Tryz.prog 39 (plainElem (H := Unit) Tryz.prog 3) (B + 1) 0 (.map []) := by
   rw [<- e1];exact World.ownsMap_made _ _ _ _
  have m2 := own_mapK m1 ((((Keeps.refl NoB _).alloc (.cells #[.int .i64 N,.slice (some ⟨B,0,none⟩) n1 n1,.pointer none,.pointer none,.pointer none,.pointer none,.map (some (B + 1))] 115)).alloc (.cells #[.pointer (some ⟨B + 1 + 1,0,none⟩)] 81))) (fun e => e)
  rw [hw4] at m2
  have hn1 := HCH.out.2.2
  refine ⟨⟨?_,⟨CH,b1,by rw [HCH.out.1,hn1],by rw [hn1];exact HCH.out.2.1⟩,fun c hc => absurd hc (Nat.not_lt_zero _),⟨_,m2⟩,fun c c' hc => absurd hc (Nat.not_lt_zero _),fun c c' hc => absurd hc (Nat.not_lt_zero _),by omega,Nat.le_refl _,by omega,fun c hc => absurd hc (Nat.not_lt_zero _)⟩,b3,?_⟩
  ·rw [<- hn1] at b2
   exact b2
  ·rw [<- hw4,<- hB0]
   exact ((((Below.refl _ w).alloc (Nat.le_refl _) _).alloc (by rw [World.size_alloc];omega) _).alloc (by rw [e2];omega) _).alloc (by rw [World.size_alloc,e2];omega) _
 obtain ⟨sb,hsb⟩ : ∃ sb,B + 1 + 1 = sb := ⟨_,rfl⟩
 obtain ⟨pb,hpb⟩ : ∃ pb,B + 1 + 1 + 1 = pb := ⟨_,rfl⟩
 obtain ⟨mb,hmb⟩ : ∃ mb,B + 1 = mb := ⟨_,rfl⟩
 rw [hpb,hsb,hmb] at hSP
 rw [hpb,hsb,hmb]
 have HSP := Lib.hid hSP.1
 have HPb0 := Lib.hid hSP.2.1
 have HB4 := Lib.hid hSP.2.2
 have HSb0 := Lib.hid (show B <= sb /\ B <= pb from by omega)
 clear hSP hw4 hmk hmm hsb hpb hmb hB0
 go_loopw [29] (fun iv wr => ∃ (k : Nat) (f : Nat -> Nat) (v : Nat -> Value),k <= 4 /\ iv = .int .i64 (k : Int) /\ Hid (SlP B wr sb B mb N sl f v k) /\ Hid (Blk wr pb #[.pointer (some ⟨sb,0,none⟩)] 81) /\ Hid (Below B w wr)) (fun iv _ => 100 - (intOf iv).toNat)
 case atStart => exact ⟨0,_,_,Nat.zero_le _,rfl,HSP,HPb0,HB4⟩
 case round =>
  obtain ⟨k,f,v,hk,rfl,HS,HPw,HBw⟩ := hrel
  by_cases hlt : k < 4
  ·have b1 : (k : Int) < 4 := by omega
   have HLt := Lib.hid hlt
   have HC4 := Lib.hid (show k < 4 /\ (k : Int) < 4 from ⟨hlt,b1⟩)
   have HPb := Lib.hid (show pb < wr.heap.size /\ wr.cell? ⟨pb,0,none⟩ = some (.pointer (some ⟨sb,0,none⟩)) from ⟨HPw.out.lt,(HPw.out.cell 0).trans rfl⟩)
   have HSb := Lib.hid (show sb < wr.heap.size /\ wr.cell? ⟨sb,2 + k,none⟩ = some (.pointer none) /\ wr.frozen? ⟨sb,2 + k,none⟩ = false from ⟨HS.out.slab.lt,(HS.out.slab.cell (2 + k)).trans (slP_get N B sl f k mb hlt),HS.out.slab.frozen _⟩)
   obtain ⟨PoW,hPo⟩ : ∃ P : World -> Prop,P = fun W' => ∃ f v,SlP B W' sb B mb N sl f v (k + 1) /\ Blk W' pb #[.pointer (some ⟨sb,0,none⟩)] 81 /\ Below B w W' := ⟨_,rfl⟩
   have HPe := Lib.hid hPo
   have HPo := Lib.hid (show ∀ W g vg,Below wr.heap.size wr W -> wr.heap.size <= g -> SetV W g vg [] -> (∀ i,vg.ownBlock = some i -> wr.heap.size <= i) -> PoW (W.setCell ⟨sb,2 + k,none⟩ (.pointer (some ⟨g,0,none⟩))) from fun W g vg hB hg hs hv => by
    have hbs : B <= wr.heap.size := by have := HBw.out.size;have := HBz.out;omega
    rw [hPo]
    refine ⟨_,_,HS.out.more HLt.out hB hg hs hv hbs,?_,?_⟩
    ·exact ((HPw.out.kept (Keeps.of_below' hB) (fun e => e))).other _ _ (blk_ne HPw.out HS.out.slab (by decide))
    ·exact (HBw.out.trans (hB.mono hbs)).setCell (p := ⟨sb,2 + k,none⟩) HSb0.out.1 _)
   clear hPo hlt
   go_upto_region 8 with (fail)
   refine wp_region_vals [Is (.pointer (some ⟨sb,0,none⟩)),Is (.int .i64 (k : Nat)),NewF wr.heap.size,Is (.pointer (some ⟨sb,0,none⟩)),Is (.pointer (some ⟨sb,2,none⟩)),Is (.pointer (some ⟨sb,2 + k,none⟩)),Is (undef)]
    (fun i => Keeps (fun x => i = 6 /\ x = sb)) (fun L W => (L 6 = false -> Below wr.heap.size wr W) /\ (L 6 = true -> PoW W)) (by kernel_rfl) (by kernel_rfl) (by kernel_rfl) ?hst ?h0 ⟨?o0,?o1,?o2,?o3,?o4,?o5,?o6,trivial⟩ ?he
   any_goals (intro L vs A W H hf hd K hK)
   case hst =>
    exact ⟨(fun _ _ _ _ _ _ h _ => h),(fun _ _ _ _ _ _ h _ => h),(fun _ _ _ _ _ _ h hR => h.kept hR (fun i hi e => by have := HSb.out.1;omega)),(fun _ _ _ _ _ _ h _ => h),(fun _ _ _ _ _ _ h _ => h),(fun _ _ _ _ _ _ h _ => h),(fun _ _ _ _ _ _ h _ => h),trivial⟩
   case h0 =>
    exact ⟨fun _ => (Below.refl _ wr).drew,fun h => by cases h⟩
   case o0 => have e6 : A.tmps[6]?.getD undef = .pointer (some ⟨pb,0,none⟩) := H.old 6 (by kernel_rfl);have n10 := H.notYet 6 0 rfl hf (by kernel_rfl);have hB := H.glob.1 n10;have d0 : W.cell? ⟨pb,0,none⟩ = some (.pointer (some ⟨sb,0,none⟩)) := (hB.cell (p := ⟨pb,0,none⟩) HPb.out.1).trans HPb.out.2;go_simp;exact hK _ _ (Keeps.refl _ _) rfl (H.glob)
   case o1 => have e7 : A.tmps[7]?.getD undef = .int .i64 (k : Nat) := H.old 7 (by kernel_rfl);go_simp;exact hK _ _ (Keeps.refl _ _) rfl (H.glob)
   case o2 => have n10 := H.notYet 6 2 rfl hf (by kernel_rfl);have HB := Lib.hid (H.glob.1 n10);have HL := Lib.hid (newfree_v none 0 [] W (.inl rfl) (by simp));go_simp;refine HL.out.mono ?_;rintro e w' ⟨vg,l,rfl,hs,hl,_,hv,hB⟩;obtain rfl : l = [] := List.eq_nil_iff_forall_not_mem.2 (fun x hx => by have := ((hl x).1 hx).1;cases this);go_simp;exact hK _ _ ((Keeps.of_below' hB).mono (fun _ _ h => h.elim)) ⟨_,vg,rfl,hs,HB.out.size,fun i hi => Nat.le_trans HB.out.size (hv i hi)⟩ ⟨fun _ => HB.out.trans (hB.mono HB.out.size),fun h => by rw [show lset L 2 6 = L 6 from rfl,n10] at h;cases h⟩
   case o3 => have e32 := H.iz hd 0 32 rfl rfl rfl (by kernel_rfl);go_simp;exact hK _ _ (Keeps.refl _ _) rfl (H.glob)
   case o4 => have e35 := H.iz hd 3 35 rfl rfl rfl (by kernel_rfl);go_simp;exact hK _ _ (Keeps.refl _ _) rfl (H.glob)
   case o5 => have e36 := H.iz hd 4 36 rfl rfl rfl (by kernel_rfl);have e33 := H.iz hd 1 33 rfl rfl rfl (by kernel_rfl);have hc4 := HC4.out;go_simp;exact hK _ _ (Keeps.refl _ _) rfl (H.glob)
   case o6 => obtain ⟨v34,e34,q34⟩ := H.val 2 34 rfl rfl rfl (deps_of' hd 2 (by kernel_rfl)) (by kernel_rfl);have e37 := H.iz hd 5 37 rfl rfl rfl (by kernel_rfl);obtain ⟨g,vg,rfl,hs,hg,hv⟩ := q34;have HB := Lib.hid (H.glob.1 hf);have d0 : W.cell? ⟨sb,2 + k,none⟩ = some (.pointer none) := (HB.out.cell (p := ⟨sb,2 + k,none⟩) HSb.out.1).trans HSb.out.2.1;have f0 : W.frozen? ⟨sb,2 + k,none⟩ = false := (HB.out.frozen (p := ⟨sb,2 + k,none⟩) HSb.out.1).trans HSb.out.2.2;have HP := Lib.hid (HPo.out W g vg HB.out hg hs hv);clear hs hv;go_simp;exact hK _ _ ((Keeps.refl _ _).setCell (p := ⟨sb,2 + k,none⟩) (.inl ⟨rfl,rfl⟩) _) rfl ⟨fun h => by simp [lset] at h,fun _ => HP.out⟩
   case he =>
    intro vs W hlen hv
    match vs,hlen,hv with
    | [x0_,x1_,x2_,x3_,x4_,x5_,x6_],_,hv =>
    obtain rfl := isv hv 0 rfl rfl;obtain rfl := isv hv 1 rfl rfl
    have hx2 : (NewF wr.heap.size) x2_ W := by obtain ⟨z,h1,h2⟩ := hv 2 _ rfl;cases h1;exact h2
    obtain rfl := isv hv 3 rfl rfl;obtain rfl := isv hv 4 rfl rfl;obtain rfl := isv hv 5 rfl rfl;obtain rfl := isv hv 6 rfl rfl
    intro L hall hG
    clear hv hlen
    have HG := Lib.hid (hG.2 (hall 6 (by decide)))
    clear hG hall hx2
    simp only [fill,if_true]
    have HG2 := Lib.hid (show ∃ f v,SlP B W sb B mb N sl f v (k + 1) /\ Blk W pb #[.pointer (some ⟨sb,0,none⟩)] 81 /\ Below B w W from by have := HG.out;rw [HPe.out] at this;exact this)
    obtain ⟨f2,v2,hS2,hP2,hB2⟩ := HG2.out
    have HS2 := Lib.hid hS2
    have HP2 := Lib.hid hP2
    have HB2 := Lib.hid hB2
    clear hS2 hP2 hB2 HG HG2 HPo HPe
    simp [Act.put]
    go_wp2_with (fail)
    go_roundw
    case rel => exact ⟨k + 1,f2,v2,HLt.out,by go_num,HS2,HP2,HB2⟩
    case measure => have := HLt.out;simp [intOf];omega
  ·have hk4 : k = 4 := by omega
   have b1 : ¬ (k : Int) < 4 := by omega
   have hSA := HS.out
   rw [hk4] at hSA
   have HSA := Lib.hid hSA.all
   clear hSA hk4 HS
   go_upto_region 11 with (fail)
   obtain ⟨ib,hib⟩ : ∃ ib,wr.heap.size = ib := ⟨_,rfl⟩
   obtain ⟨w5,hw5⟩ : ∃ w5,wr.alloc (.cells #[.int .i64 1] 3) = w5 := ⟨_,rfl⟩
   have hR0 : OfR w w5 sb B mb pb ib N sl 1 f [] := by
    have hb1 := Blk.new wr #[.int .i64 1] 3
    rw [hw5,hib] at hb1
    have hB5 : Below wr.heap.size wr w5 := by rw [<- hw5];exact (Below.refl _ _).alloc (Nat.le_refl _) _
    have hsz := HBw.out.size
    have hBB := HBz.out
    exact ⟨⟨_,_,_,_,by rw [hBB];exact HSA.out.below hB5,by omega,by omega⟩,HPw.out.kept (Keeps.of_below' hB5) (fun e => e),hb1,by have := HI.out.1;omega,⟨List.nodup_nil,fun D hD => by cases hD⟩,by rw [hBB];exact HBw.out.trans (hB5.mono (by omega)),by have := HSb0.out;omega⟩
   have HR0 := Lib.hid hR0
   rw [hib,hw5]
   clear hR0 hib hw5
   refine wp_loop (OfI w gb cb sb B mb pb N sl) iOf ?start ?round
   case start => exact OfI.mk HR0.out rfl
   case round =>
    intro a wq hI
    unfold OfI at hI
    obtain ⟨u1,hI⟩ := hI
    obtain ⟨u2,hI⟩ := hI
    obtain ⟨u3,hI⟩ := hI
    obtain ⟨u5,hI⟩ := hI
    obtain ⟨u7,hI⟩ := hI
    obtain ⟨u9,hI⟩ := hI
    obtain ⟨u10,hI⟩ := hI
    obtain ⟨u11,hI⟩ := hI
    obtain ⟨u12,hI⟩ := hI
    obtain ⟨u13,hI⟩ := hI
    obtain ⟨u14,hI⟩ := hI
    obtain ⟨u15,hI⟩ := hI
    obtain ⟨u16,hI⟩ := hI
    obtain ⟨u17,hI⟩ := hI
    obtain ⟨u18,hI⟩ := hI
    obtain ⟨u19,hI⟩ := hI
    obtain ⟨u20,hI⟩ := hI
    obtain ⟨u21,hI⟩ := hI
    obtain ⟨u22,hI⟩ := hI
    obtain ⟨u23,hI⟩ := hI
    obtain ⟨u24,hI⟩ := hI
    obtain ⟨u25,hI⟩ := hI
    obtain ⟨u26,hI⟩ := hI
    obtain ⟨u27,hI⟩ := hI
    obtain ⟨u28,hI⟩ := hI
    obtain ⟨u29,hI⟩ := hI
    obtain ⟨u30,hI⟩ := hI
    obtain ⟨u31,hI⟩ := hI
    obtain ⟨u32,hI⟩ := hI
    obtain ⟨u33,hI⟩ := hI
    obtain ⟨u34,hI⟩ := hI
    obtain ⟨u35,hI⟩ := hI
    obtain ⟨u36,hI⟩ := hI
    obtain ⟨u37,hI⟩ := hI
    obtain ⟨u38,hI⟩ := hI
    obtain ⟨u39,hI⟩ := hI
    obtain ⟨u40,hI⟩ := hI
    obtain ⟨u41,hI⟩ := hI
    obtain ⟨u42,hI⟩ := hI
    obtain ⟨u43,hI⟩ := hI
    obtain ⟨u44,hI⟩ := hI
    obtain ⟨u45,hI⟩ := hI
    obtain ⟨u46,hI⟩ := hI
    obtain ⟨u47,hI⟩ := hI
    obtain ⟨u48,hI⟩ := hI
    obtain ⟨u49,hI⟩ := hI
    obtain ⟨u50,hI⟩ := hI
    obtain ⟨u51,hI⟩ := hI
    obtain ⟨u52,hI⟩ := hI
    obtain ⟨u53,hI⟩ := hI
    obtain ⟨u54,hI⟩ := hI
    obtain ⟨u55,hI⟩ := hI
    obtain ⟨u56,hI⟩ := hI
    obtain ⟨u57,hI⟩ := hI
    obtain ⟨u58,hI⟩ := hI
    obtain ⟨u59,hI⟩ := hI
    obtain ⟨u60,hI⟩ := hI
    obtain ⟨u61,hI⟩ := hI
    obtain ⟨u62,hI⟩ := hI
    obtain ⟨u63,hI⟩ := hI
    obtain ⟨u64,hI⟩ := hI
    obtain ⟨u65,hI⟩ := hI
    obtain ⟨u66,hI⟩ := hI
    obtain ⟨u67,hI⟩ := hI
    obtain ⟨u68,hI⟩ := hI
    obtain ⟨u69,hI⟩ := hI
    obtain ⟨u70,hI⟩ := hI
    obtain ⟨u71,hI⟩ := hI
    obtain ⟨u72,hI⟩ := hI
    obtain ⟨u73,hI⟩ := hI
    obtain ⟨u74,hI⟩ := hI
    obtain ⟨u75,hI⟩ := hI
    obtain ⟨u76,hI⟩ := hI
    obtain ⟨u77,hI⟩ := hI
    obtain ⟨u78,hI⟩ := hI
    obtain ⟨u79,hI⟩ := hI
    obtain ⟨u80,hI⟩ := hI
    obtain ⟨u81,hI⟩ := hI
    obtain ⟨u82,hI⟩ := hI
    obtain ⟨u83,hI⟩ := hI
    obtain ⟨u84,hI⟩ := hI
    obtain ⟨u85,hI⟩ := hI
    obtain ⟨u86,hI⟩ := hI
    obtain ⟨u87,hI⟩ := hI
    obtain ⟨u88,hI⟩ := hI
    obtain ⟨u89,hI⟩ := hI
    obtain ⟨u90,hI⟩ := hI
    obtain ⟨u91,hI⟩ := hI
    obtain ⟨u92,hI⟩ := hI
    obtain ⟨u93,hI⟩ := hI
    obtain ⟨u94,hI⟩ := hI
    obtain ⟨u95,hI⟩ := hI
    obtain ⟨u96,hI⟩ := hI
    obtain ⟨u97,hI⟩ := hI
    obtain ⟨ib,i,f,Ds,HR,rfl⟩ := hI
    obtain ⟨wr,rfl⟩ : ∃ wr,wr = wq := ⟨_,rfl⟩
    have c8 : wr.cell? ⟨ib,0,none⟩ = some (.int .i64 (i : Int)) := (HR.out.b.cell 0).trans rfl
    obtain ⟨ds,hds⟩ : ∃ ds,Ds.map markD = ds := ⟨_,rfl⟩
    have Hds := Lib.hid hds
    rw [hds]
    have hi17 : (i : Int) <= 17 := by have := HR.out.i1;omega
    clear hds
    by_cases hle : i <= sl
    ·have b2 : (i : Int) <= (sl : Int) := by omega
     have HLe := Lib.hid hle
     obtain ⟨cc,uu,hc1,hu1,hc3,hu64,hmay⟩ := HI.out.2.2.2 i HR.out.i1.1 hle
     obtain ⟨cv,hcv⟩ : ∃ cv : Int,(cc : Int) = cv := ⟨_,rfl⟩
     obtain ⟨uv,huv⟩ : ∃ uv : Int,(uu : Int) = uv := ⟨_,rfl⟩
     have HCu := Lib.hid (And.intro hcv (And.intro huv (And.intro hc3 (And.intro hu64 hmay))))
     have HHd := Lib.hid (fun W => header_s (i : Int) (by have := HR.out.i1;omega) W)
     have HBt := Lib.hid (fun W => gbits_s i ⟨HR.out.i1.1,by omega⟩ W)
     have hby : ∀ W,Below wr.heap.size wr W -> BytesAt W gb 0 L := fun W hB j hj => by
      have h1 := HBy.out j hj
      have hlt : gb < w.heap.size := World.block_lt_of_cell? w ⟨gb,0 + j,none⟩ h1
      exact ((HR.out.k.trans (hB.mono HR.out.k.size)).cell (p := ⟨gb,0 + j,none⟩) hlt).trans h1
     have HW1 := Lib.hid (show ∀ W,Below wr.heap.size wr W -> Calls Tryz.prog 39 #[.slice (some ⟨gb,0,none⟩) N cb,.int .u64 (1024 * (i : Int))] W fun e w' => e = .returned (.int .u64 cv) /\ W = w' from fun W hB => by
      have h1 := sword_v W gb cb L (1024 * i) (hby W hB) (by rw [HNn.out];have := HNs.out;omega) (by rw [HNn.out];omega)
      rw [hc1,hcv,HNn.out,show ((1024 * i : Nat) : Int) = 1024 * (i : Int) by omega] at h1
      exact h1)
     have HW2 := Lib.hid (show ∀ W,Below wr.heap.size wr W -> Calls Tryz.prog 39 #[.slice (some ⟨gb,0,none⟩) N cb,.int .u64 ((1024 * i + 8 : Nat) : Int)] W fun e w' => e = .returned (.int .u64 uv) /\ W = w' from fun W hB => by
      have h1 := sword_v W gb cb L (1024 * i + 8) (hby W hB) (by rw [HNn.out];have := HNs.out;omega) (by rw [HNn.out];omega)
      rw [hu1,huv,HNn.out] at h1
      exact h1)
     have HIb := Lib.hid (show ib < wr.heap.size /\ wr.cell? ⟨ib,0,none⟩ = some (.int .i64 (i : Nat)) from ⟨HR.out.b.lt,c8⟩)
     clear hc1 hu1 hcv huv hc3 hu64 hmay hby
     go_upto_region 13 with (fail)
     refine wp_region_valsA [Is (.slice (some ⟨gb,0,none⟩) N cb),Is (.int .i64 (i : Nat)),Is (.int .u64 (1024 * (i : Int))),Is (.int .u64 cv),Is (.slice (some ⟨gb,0,none⟩) N cb),Is (.int .i64 (i : Nat)),Is (.int .u64 ((1024 * i + 8 : Nat) : Int)),Is (.int .u64 uv),P8 wr.heap.size,Is (undef),Is (.int .u64 uv)]
      (fun i W W' => Below W.heap.size W W' ∨ (∃ g y,W' = W.setCell ⟨g,0,none⟩ y)) (fun L A W => Of13 wr cv L A W) (by kernel_rfl) (by kernel_rfl) (by kernel_rfl) ?hst ?h0 ⟨?o0,?o1,?o2,?o3,?o4,?o5,?o6,?o7,?o8,?o9,?o10,trivial⟩ ?he
     any_goals (intro L vs A W H hf hd K hK)
     case hst =>
      exact ⟨(fun _ _ _ _ _ _ h _ => h),(fun _ _ _ _ _ _ h _ => h),(fun _ _ _ _ _ _ h _ => h),(fun _ _ _ _ _ _ h _ => h),(fun _ _ _ _ _ _ h _ => h),(fun _ _ _ _ _ _ h _ => h),(fun _ _ _ _ _ _ h _ => h),(fun _ _ _ _ _ _ h _ => h),(fun _ _ _ _ _ _ h hR => h.stay hR),(fun _ _ _ _ _ _ h _ => h),(fun _ _ _ _ _ _ h _ => h),trivial⟩
     case h0 =>
      exact ⟨(Below.refl _ wr).drew,fun h => by cases h⟩
     case o0 => have e0 : A.tmps[0]?.getD undef = .slice (some ⟨gb,0,none⟩) N cb := H.old 0 (by kernel_rfl);go_simp;exact hK _ _ (.inl (Below.refl _ _)) rfl (H.glob.keep rfl (by decide))
     case o1 => have e8 : A.tmps[8]?.getD undef = .pointer (some ⟨ib,0,none⟩) := H.old 8 (by kernel_rfl);have d0 : W.cell? ⟨ib,0,none⟩ = some (.int .i64 (i : Nat)) := (H.glob.b.cell (p := ⟨ib,0,none⟩) HIb.out.1).trans HIb.out.2;go_simp;exact hK _ _ (.inl (Below.refl _ _)) rfl (H.glob.keep rfl (by decide))
     case o2 => have e45 := H.is 1 45 rfl rfl rfl (deps_of' hd 1 (by kernel_rfl)) (by kernel_rfl);have HL := Lib.hid (HHd.out W);go_simp;refine HL.out.mono ?_;rintro e w' ⟨rfl,rfl⟩;go_simp;exact hK _ _ (.inl (Below.refl _ _)) rfl (H.glob.keep rfl (by decide))
     case o3 => have e44 := H.is 0 44 rfl rfl rfl (deps_of' hd 0 (by kernel_rfl)) (by kernel_rfl);have e46 := H.is 2 46 rfl rfl rfl (deps_of' hd 2 (by kernel_rfl)) (by kernel_rfl);have HL := Lib.hid (HW1.out W H.glob.b);go_simp;refine HL.out.mono ?_;rintro e w' ⟨rfl,rfl⟩;go_simp;exact hK _ _ (.inl (Below.refl _ _)) rfl (H.glob.keep rfl (by decide))
     case o4 => have e0 : A.tmps[0]?.getD undef = .slice (some ⟨gb,0,none⟩) N cb := H.old 0 (by kernel_rfl);go_simp;exact hK _ _ (.inl (Below.refl _ _)) rfl (H.glob.keep rfl (by decide))
     case o5 => have e8 : A.tmps[8]?.getD undef = .pointer (some ⟨ib,0,none⟩) := H.old 8 (by kernel_rfl);have d0 : W.cell? ⟨ib,0,none⟩ = some (.int .i64 (i : Nat)) := (H.glob.b.cell (p := ⟨ib,0,none⟩) HIb.out.1).trans HIb.out.2;go_simp;exact hK _ _ (.inl (Below.refl _ _)) rfl (H.glob.keep rfl (by decide))
     case o6 => have e49 := H.is 5 49 rfl rfl rfl (deps_of' hd 5 (by kernel_rfl)) (by kernel_rfl);have HL := Lib.hid (HBt.out W);go_simp;refine HL.out.mono ?_;rintro e w' ⟨rfl,rfl⟩;go_simp;exact hK _ _ (.inl (Below.refl _ _)) rfl (H.glob.keep rfl (by decide))
     case o7 => have e48 := H.is 4 48 rfl rfl rfl (deps_of' hd 4 (by kernel_rfl)) (by kernel_rfl);have e50 := H.is 6 50 rfl rfl rfl (deps_of' hd 6 (by kernel_rfl)) (by kernel_rfl);have HL := Lib.hid (HW2.out W H.glob.b);go_simp;refine HL.out.mono ?_;rintro e w' ⟨rfl,rfl⟩;go_simp;exact hK _ _ (.inl (Below.refl _ _)) rfl (H.glob.keep rfl (by decide))
     case o8 => have n9 := H.notYet 9 8 rfl hf (by kernel_rfl);have hb := H.glob.b;go_simp;exact hK _ _ (.inl ((Below.refl _ _).alloc (Nat.le_refl _) _)) ⟨W.heap.size,_,rfl,hb.size,Blk.new W _ _⟩ ⟨hb.alloc hb.size _,fun h => by rw [show lset L 8 9 = L 9 from rfl,n9] at h;cases h⟩
     case o9 => obtain ⟨v9,e9,q9⟩ := H.val 8 9 rfl rfl rfl (deps_of' hd 8 (by kernel_rfl)) (by kernel_rfl);have e47 := H.is 3 47 rfl rfl rfl (deps_of' hd 3 (by kernel_rfl)) (by kernel_rfl);obtain ⟨g,x,rfl,hg,hbg⟩ := q9;have c9 := hbg.cell 0;have f9 := hbg.frozen 0;have HS9 := Lib.hid (H.glob.s9 hf e9 hg hbg (A' := A.put none undef) rfl);clear hbg;go_simp;exact hK _ _ (.inr ⟨g,_,rfl⟩) rfl HS9.out
     case o10 => have e51 := H.is 7 51 rfl rfl rfl (deps_of' hd 7 (by kernel_rfl)) (by kernel_rfl);go_simp;exact hK _ _ (.inl (Below.refl _ _)) rfl (H.glob.keep rfl (by decide))
     case he =>
      intro vs W hlen hv
      match vs,hlen,hv with
      | [x0_,x1_,x2_,x3_,x4_,x5_,x6_,x7_,x8_,x9_,x10_],_,hv =>
      obtain rfl : (.slice (some ⟨gb,0,none⟩) N cb) = x0_ := by obtain ⟨z,h1,h2⟩ := hv 0 _ rfl;cases h1;exact h2.symm
      obtain rfl : (.int .i64 (i : Nat)) = x1_ := by obtain ⟨z,h1,h2⟩ := hv 1 _ rfl;cases h1;exact h2.symm
      obtain rfl : (.int .u64 (1024 * (i : Int))) = x2_ := by obtain ⟨z,h1,h2⟩ := hv 2 _ rfl;cases h1;exact h2.symm
      obtain rfl : (.int .u64 cv) = x3_ := by obtain ⟨z,h1,h2⟩ := hv 3 _ rfl;cases h1;exact h2.symm
      obtain rfl : (.slice (some ⟨gb,0,none⟩) N cb) = x4_ := by obtain ⟨z,h1,h2⟩ := hv 4 _ rfl;cases h1;exact h2.symm
      obtain rfl : (.int .i64 (i : Nat)) = x5_ := by obtain ⟨z,h1,h2⟩ := hv 5 _ rfl;cases h1;exact h2.symm
      obtain rfl : (.int .u64 ((1024 * i + 8 : Nat) : Int)) = x6_ := by obtain ⟨z,h1,h2⟩ := hv 6 _ rfl;cases h1;exact h2.symm
      obtain rfl : (.int .u64 uv) = x7_ := by obtain ⟨z,h1,h2⟩ := hv 7 _ rfl;cases h1;exact h2.symm
      have hx8 : (P8 wr.heap.size) x8_ W := by obtain ⟨z,h1,h2⟩ := hv 8 _ rfl;cases h1;exact h2
      obtain rfl : (undef) = x9_ := by obtain ⟨z,h1,h2⟩ := hv 9 _ rfl;cases h1;exact h2.symm
      obtain rfl : (.int .u64 uv) = x10_ := by obtain ⟨z,h1,h2⟩ := hv 10 _ rfl;cases h1;exact h2.symm
      intro L hall hG
      clear hv hlen
      obtain ⟨g9,e9,hg9,hb9⟩ := hG.y (hall 9 (by decide))
      simp [fill,Act.put] at e9
      have HB13 := Lib.hid hG.b
      have HG9 := Lib.hid (And.intro hg9 hb9)
      subst e9
      clear hG hall hx8 hg9 hb9
      simp only [fill,if_true]
      simp [Act.put]
      obtain ⟨w13,rfl⟩ : ∃ w13,w13 = W := ⟨_,rfl⟩
      have c9 : w13.cell? ⟨g9,0,none⟩ = some (.int .u64 cv) := (HG9.out.2.cell 0).trans rfl
      have hcv3 : cv <= 3 := by have := HCu.out;omega
      have hcv0 : 0 <= cv := by have := HCu.out;omega
      have hgt : decide (3 < cv) = false := by simp;omega
      have hwc : IntKind.i64.wrap cv = cv := i64_id _ (by omega)
      obtain ⟨bk,hbk⟩ : ∃ bk : Int,(blkK cc : Int) = bk := ⟨_,rfl⟩
      have HBl := Lib.hid (show ∀ W,Calls Tryz.prog 43 #[.int .i64 cv] W fun e w' => e = .returned (.int .i64 bk) /\ Below W.heap.size W w' from fun W => by rw [<- HCu.out.1,<- hbk];exact blocks_k cc HCu.out.2.2.1 W)
      have HMy := Lib.hid (show ∀ W,Calls Tryz.prog 42 #[.int .u64 uv,.int .i64 bk] W fun e w' => e = .returned (.bool true) /\ Below W.heap.size W w' from fun W => by
       have h1 := may_calls uu HCu.out.2.2.2.1 bk W
       rw [<- hbk,HCu.out.2.2.2.2,hbk,HCu.out.2.1] at h1
       exact h1)
      clear hbk HW1 HW2 HHd HBt c8
      go_upto_region 16 with (first
       | (go_at_call 43;refine (HBl.out _).mono ?_;rintro e w14 ⟨rfl,hB14⟩;have HB14 := Lib.hid hB14;clear hB14)
       | (go_at_call 42;refine (HMy.out _).mono ?_;rintro e w15 ⟨rfl,hB15⟩;have HB15 := Lib.hid hB15;clear hB15))
      have hB15 : Below wr.heap.size wr w15 := HB13.out.trans ((HB14.out.trans (HB15.out.mono HB14.out.size)).mono HB13.out.size)
      obtain ⟨v,l,m,n,hS,hn,hm⟩ := HR.out.s
      have hS15 := hS.below hB15
      have hp15 := HR.out.p.kept (Keeps.of_below' hB15) (fun e => e)
      have hb15 := HR.out.b.kept (Keeps.of_below' hB15) (fun e => e)
      have HX5 := Lib.hid (show pb < w15.heap.size /\ w15.cell? ⟨pb,0,none⟩ = some (.pointer (some ⟨sb,0,none⟩)) /\ sb < w15.heap.size /\ w15.cell? ⟨sb,1,none⟩ = some (.slice (some ⟨B,0,none⟩) n1 n1) /\ ib < w15.heap.size /\ w15.cell? ⟨ib,0,none⟩ = some (.int .i64 (i : Nat)) from
       ⟨hp15.lt,(hp15.cell 0).trans rfl,hS15.slab.lt,by rw [<- HCH.out.2.2];exact (hS15.slab.cell 1).trans rfl,hb15.lt,(hb15.cell 0).trans rfl⟩)
      have HI1 := Lib.hid (show i < n1 /\ (i : Int) < (n1 : Int) /\ i < 1 + sl from by have := HLe.out;have := HCH.out.2.2;omega)
      have HHc := Lib.hid (show ∀ W,Below w15.heap.size w15 W -> ∃ b0,W.cell? ⟨B,i * 2 + 1,none⟩ = some (.int .u64 b0) /\ W.frozen? ⟨B,i * 2 + 1,none⟩ = false from fun W hB => by
       obtain ⟨a0,b0,_,h2,h3⟩ := (hS15.below hB).hd.cell HI1.out.2.2
       exact ⟨b0,h2,h3 _⟩)
      obtain ⟨PoW,hPo⟩ : ∃ P : World -> Prop,P = fun W' => ∃ v l m n,SlS w.heap.size W' sb B mb N sl f v l m n /\ n <= 100 * i /\ m <= 100 * i /\ KpT w.heap.size w15 W' := ⟨_,rfl⟩
      have HPe := Lib.hid hPo
      have HPo := Lib.hid (show ∀ W,Below w15.heap.size w15 W -> PoW (W.setCell ⟨B,i * 2 + 1,none⟩ (.int .u64 uv)) from fun W hB => by
       have h1 := hS15.below hB
       have h2 := h1.head ((Keeps.refl (fun x => x = B) W).setCell (p := ⟨B,i * 2 + 1,none⟩) (.inl rfl) (.int .u64 uv)) (h1.hd.setB HI1.out.2.2 uv)
       rw [hPo]
       exact ⟨v,l,m,n,h2.1,hn,hm,(KpT.of_below hB).trans h2.2⟩)
      have HK15 := Lib.hid hB15
      have hg9 := HG9.out.2.kept (Keeps.of_below' (HB14.out.trans (HB15.out.mono HB14.out.size))) (fun e => e)
      have HG15 := Lib.hid (And.intro HG9.out.1 hg9)
      clear hPo hS hS15 hp15 hb15 hB15 hn hm hg9 c9 HG9 HB13 HB14 HB15
      refine wp_region_vals [Is (.pointer (some ⟨sb,0,none⟩)),Is (.pointer (some ⟨sb,0,none⟩)),Is (.pointer (some ⟨sb,1,none⟩)),Is (.slice (some ⟨B,0,none⟩) n1 n1),Is (.int .i64 (i : Nat)),Is (.int .u64 uv),Is (.pointer (some ⟨B,i * 2,none⟩)),Is (.pointer (some ⟨B,i * 2 + 1,none⟩)),Is (undef)]
       (fun _ _ _ => True) (fun L W => (L 8 = false -> Below w15.heap.size w15 W) /\ (L 8 = true -> PoW W)) (by kernel_rfl) (by kernel_rfl) (by kernel_rfl) ?hst ?h0 ⟨?o0,?o1,?o2,?o3,?o4,?o5,?o6,?o7,?o8,trivial⟩ ?he
      any_goals (intro L vs A W H hf hd K hK)
      case hst => repeat' (first | exact trivial | refine ⟨fun _ _ _ _ _ _ h _ => h,?_⟩)
      case h0 =>
       exact ⟨fun _ => (Below.refl _ w15).drew,fun h => by cases h⟩
      case o0 => have e6 : A.tmps[6]?.getD undef = .pointer (some ⟨pb,0,none⟩) := H.old 6 (by kernel_rfl);have n8 := H.notYet 8 0 rfl hf (by kernel_rfl);have d0 := ((H.glob.1 n8).cell (p := ⟨pb,0,none⟩) HX5.out.1).trans HX5.out.2.1;go_simp;exact hK _ _ (trivial) rfl (H.glob)
      case o1 => have e62 := H.iz hd 0 62 rfl rfl rfl (by kernel_rfl);go_simp;exact hK _ _ (trivial) rfl (H.glob)
      case o2 => have e63 := H.iz hd 1 63 rfl rfl rfl (by kernel_rfl);go_simp;exact hK _ _ (trivial) rfl (H.glob)
      case o3 => have e64 := H.iz hd 2 64 rfl rfl rfl (by kernel_rfl);have n8 := H.notYet 8 3 rfl hf (by kernel_rfl);have d0 := ((H.glob.1 n8).cell (p := ⟨sb,1,none⟩) HX5.out.2.2.1).trans HX5.out.2.2.2.1;go_simp;exact hK _ _ (trivial) rfl (H.glob)
      case o4 => have e8 : A.tmps[8]?.getD undef = .pointer (some ⟨ib,0,none⟩) := H.old 8 (by kernel_rfl);have n8 := H.notYet 8 4 rfl hf (by kernel_rfl);have d0 := ((H.glob.1 n8).cell (p := ⟨ib,0,none⟩) HX5.out.2.2.2.2.1).trans HX5.out.2.2.2.2.2;go_simp;exact hK _ _ (trivial) rfl (H.glob)
      case o5 => have e10 : A.tmps[10]?.getD undef = .int .u64 uv := H.old 10 (by kernel_rfl);go_simp;exact hK _ _ (trivial) rfl (H.glob)
      case o6 => have e65 := H.iz hd 3 65 rfl rfl rfl (by kernel_rfl);have e66 := H.iz hd 4 66 rfl rfl rfl (by kernel_rfl);have hx1 := HI1.out.1;have hx2 := HI1.out.2.1;go_simp;exact hK _ _ (trivial) rfl (H.glob)
      case o7 => have e68 := H.iz hd 6 68 rfl rfl rfl (by kernel_rfl);go_simp;exact hK _ _ (trivial) rfl (H.glob)
      case o8 => have e69 := H.iz hd 7 69 rfl rfl rfl (by kernel_rfl);have e67 := H.iz hd 5 67 rfl rfl rfl (by kernel_rfl);have hB := H.glob.1 hf;have HP := Lib.hid (HPo.out W hB);obtain ⟨b0,d0,f0⟩ := HHc.out W hB;go_simp;exact hK _ _ (trivial) rfl (⟨fun h => by simp [lset] at h,fun _ => HP.out⟩)
      case he =>
       intro vs W hlen hv
       match vs,hlen,hv with
       | [x0_,x1_,x2_,x3_,x4_,x5_,x6_,x7_,x8_],_,hv =>
       obtain rfl := isv hv 0 rfl rfl;obtain rfl := isv hv 1 rfl rfl;obtain rfl := isv hv 2 rfl rfl;obtain rfl := isv hv 3 rfl rfl;obtain rfl := isv hv 4 rfl rfl;obtain rfl := isv hv 5 rfl rfl;obtain rfl := isv hv 6 rfl rfl;obtain rfl := isv hv 7 rfl rfl;obtain rfl := isv hv 8 rfl rfl
       intro L hall hG
       clear hv hlen
       have HG := Lib.hid (hG.2 (hall 8 (by decide)))
       clear hG hall
       simp only [fill,if_true]
       simp [Act.put]
       obtain ⟨w16,rfl⟩ : ∃ w16,w16 = W := ⟨_,rfl⟩
       have HG2 := Lib.hid (show ∃ v l m n,SlS w.heap.size w16 sb B mb N sl f v l m n /\ n <= 100 * i /\ m <= 100 * i /\ KpT w.heap.size w15 w16 from by have := HG.out;rw [HPe.out] at this;exact this)
       obtain ⟨v,l,m,n,hS,hn,hm,hk⟩ := HG2.out
       have hk16 := (KpT.of_below (B := w.heap.size) HK15.out).trans hk
       have hp16 := hk16.blk HR.out.p (by decide) (by decide) (by decide)
       have hb16 := hk16.blk HR.out.b (by decide) (by decide) (by decide)
       have hg16 := hk.blk HG15.out.2 (by decide) (by decide) (by decide)
       have cp : w16.cell? ⟨pb,0,none⟩ = some (.pointer (some ⟨sb,0,none⟩)) := (hp16.cell 0).trans rfl
       have ci : w16.cell? ⟨ib,0,none⟩ = some (.int .i64 (i : Nat)) := (hb16.cell 0).trans rfl
       have cg : w16.cell? ⟨g9,0,none⟩ = some (.int .u64 cv) := (hg16.cell 0).trans rfl
       have HGv := Lib.hid (show Calls Tryz.prog 44 #[.pointer (some ⟨sb,0,none⟩),.int .i64 (i : Nat),.int .i64 cv] w16 fun e w' => e = .returned (.tuple #[]) /\ (∃ v' l',SlS w.heap.size w' sb B mb N sl f v' l' m (n + 15)) /\ KpT w.heap.size wr w' /\ KpT w.heap.size w15 w' from by
        rw [<- HCu.out.1]
        refine (give_v w.heap.size w16 sb B mb N sl f v l m n i cc hS (by have := HR.out.k.size;have := hk16.size;omega) ⟨HR.out.i1.1,HLe.out⟩ (by omega) HCu.out.2.2.1 (by omega)).mono ?_
        rintro e w' ⟨h1,v',l',h2,h3⟩
        exact ⟨h1,⟨v',l',h2⟩,hk16.trans h3,hk.trans h3⟩)
       have Hnm := Lib.hid (And.intro hn hm)
       have HA := Lib.hid (fun W => callsIn_wide.1 (all_calls 9 uu W))
       rw [HCu.out.2.1] at HA
       clear hS hn hm hk hk16 hp16 hb16 hg16 HG HG2 HPo HPe HX5 HHc
       go_upto_region 18 with (go_at_call 44;refine HGv.out.mono ?_;rintro e w17 ⟨rfl,hS17,hK17,hK17b⟩)
       have HS17 := Lib.hid hS17
       have HK17 := Lib.hid hK17
       have HK17b := Lib.hid hK17b
       clear hS17 hK17 hK17b HGv cp ci cg
       go_wp2_with (go_at_call 45;refine (HA.out _).mono ?_;rintro e w18 ⟨rfl,h18⟩)
       refine (wpIn_wide (n := 9)).1 ?_
       obtain ⟨qb,hqb⟩ : ∃ qb,w17.heap.size = qb := ⟨_,rfl⟩
       have hbq := Blk.new w17 #[.int .u64 uv] 25
       rw [<- h18,hqb] at hbq
       have hB18 : Below w17.heap.size w17 w18 := by rw [h18];exact (Below.refl _ _).alloc (Nat.le_refl _) _
       have h0 : OfB w w18 w18 sb B mb pb ib g9 qb N sl i cv uv f Ds 0 := by
        obtain ⟨v2,l2,hS2⟩ := HS17.out
        have hk18 : KpT w.heap.size wr w18 := HK17.out.trans (KpT.of_below hB18)
        have hbb : Below w.heap.size w w18 := HR.out.k.trans (hk18.below HR.out.k.size)
        refine ⟨⟨v2,l2,m,n + 15,hS2.below hB18,by have := Hnm.out;omega,by have := Hnm.out;omega⟩,hk18.blk HR.out.p (by decide) (by decide) (by decide),hk18.blk HR.out.b (by decide) (by decide) (by decide),(HK17b.out.trans (KpT.of_below hB18)).blk HG15.out.2 (by decide) (by decide) (by decide),hbq,HR.out.m.kept hk18,hbb,Nat.le_refl _⟩
       have HOB0 := Lib.hid h0
       have HCo := Lib.hid (show w.heap.size <= w18.heap.size /\ mb < w18.heap.size /\ ∀ D ∈ Ds,D < w18.heap.size from ⟨h0.k.size,by
        obtain ⟨v2,l2,m2,n2,hS2,_⟩ := h0.s
        obtain ⟨D,es,ck,hm,_⟩ := hS2.map
        exact (Array.getElem?_eq_some_iff.1 hm).1,fun D hD => (Array.getElem?_eq_some_iff.1 (h0.m.2 D hD).2).1⟩)
       have hq18 : qb < w18.heap.size := hbq.lt
       have HQb := Lib.hid hbq
       try rw [<- h18]
       rw [hqb]
       clear hqb hB18 h0 hbq h18 HA
       generalize hT : (#[_,_,_,_,_,_,_,_,_,_,_,_,_,_,_,_,_,_,_,_,_,_,_,_,_,_,_,_,_,_,_,_,_,_,_,_,_,_,_,_,_,_,_,_,_,_,_,_,_,_,_,_,_,_,_,_,_,_,_,_,_,_,_,_,_,_,_,_,_,_,_,_,_,_,_,_,_,_,_,_,_,_,_,_,_,_,_,_,_,_,_,_,_,_,_,_,_,_] : Array Value) = T
       have h76 : T.getD 76 undef = .func (.func 64) #[] #[.pointer (some ⟨qb,0,none⟩)] := by rw [<- hT];rfl
       have HT := Lib.hid hT
       clear hT
       refine wpIn_rangeFunc_ownG rfl (by omega) (gf := 64) (lb := #[.pointer (some ⟨qb,0,none⟩)]) h76 trivial (enters_of Tryz.func64 (by kernel_rfl) rfl)
        (all_stops 8 (by omega) uu HCu.out.2.2.2.1 qb w18 (by rw [HCu.out.2.1];exact HQb.out)) kpB_t (kpB_b hq18) (Below.refl _ _) (fun _ => rfl)
        (fun pre W => OfB w w18 W sb B mb pb ib g9 qb N sl i cv uv f Ds pre.length)
        (fun _ _ _ => False)
        (fun s A C row hs hg hr => hs.grown hg hr HCo.out)
        (fun _ _ _ _ _ hs _ _ => hs)
        HOB0.out
        (fun x => { tmps := (T.setIfInBounds 77 (.int .i64 x)).setIfInBounds 11 (.int .i64 x),defers := [] }) ?assign ?body ?done ?stop
       case assign =>
        intro lr x W K hK
        revert hK
        rw [<- HT.out]
        intro hK
        simp [encI] at hK ⊢
        gi_wp2
        exact hK
       case body =>
        rintro lr pre x Wb hIb hlen
        rw [<- HT.out]
        simp
        have HIb := Lib.hid hIb
        have ci := (hIb.b.cell 0).trans (show _ = some (Value.int .i64 (i : Int)) from rfl)
        have cg := (hIb.g.cell 0).trans (show _ = some (Value.int .u64 cv) from rfl)
        obtain ⟨bj,hbj⟩ : ∃ bj,blockK i cc x = bj := ⟨_,rfl⟩
        have hbr := blockK_rng i cc (by have := HI.out.2.1;have := HLe.out;omega) x HCu.out.2.2.1
        rw [hbj] at hbr
        have HBr := Lib.hid hbr
        have HBk := Lib.hid (show ∀ W,Calls Tryz.prog 46 #[.int .i64 (i : Int),.int .i64 cv,.int .i64 x] W fun e w' => e = .returned (.int .u64 bj) /\ Below W.heap.size W w' from fun W => by
         have h1 := block_k i cc x ⟨HR.out.i1.1,by have := HI.out.2.1;have := HLe.out;omega⟩ HCu.out.2.2.1 W
         rw [hbj,HCu.out.1] at h1
         exact h1)
        clear hIb hbj hbr
        gi_wp2_with (refine ⟨trivial,?_⟩;gi_at_call 46;refine (CallsIn.inRound lr (callsIn_wide.2 (HBk.out _))).mono ?_;rintro e w2 ⟨rfl,hB2⟩)
        have hI2 := HIb.out.below hB2
        obtain ⟨v2,l2,m2,n2,hS2,hn2,hm2⟩ := hI2.s
        have hc4 : cc < 4 := by have := HCu.out.2.2.1;omega
        obtain ⟨fc,hfc⟩ : ∃ fc,f cc = fc := ⟨_,rfl⟩
        have HX2 := Lib.hid (show pb < w2.heap.size /\ w2.cell? ⟨pb,0,none⟩ = some (.pointer (some ⟨sb,0,none⟩)) /\ g9 < w2.heap.size /\ w2.cell? ⟨g9,0,none⟩ = some (.int .u64 cv) /\ sb < w2.heap.size /\ w2.cell? ⟨sb,2 + cc,none⟩ = some (.pointer (some ⟨fc,0,none⟩)) from
         ⟨hI2.p.lt,(hI2.p.cell 0).trans rfl,hI2.g.lt,(hI2.g.cell 0).trans rfl,hS2.slab.lt,(hS2.slab.cell (2 + cc)).trans (by rw [slC_f N B sl f mb hc4,hfc])⟩)
        have HX3 := Lib.hid (show cv.toNat = cc /\ cv < 4 /\ 0 <= cv from by have := HCu.out;omega)
        have hkl : pre.length <= 100 := by omega
        obtain ⟨PoD,hPo⟩ : ∃ P : World -> Prop,P = fun W' => OfB w w18 W' sb B mb pb ib g9 qb N sl i cv uv f Ds (pre.length + 1) /\ (∃ v l m n,SlS w.heap.size W' sb B mb N sl f v l m n /\ n <= 100 * i + 15 + (pre.length + 1) /\ m <= 100 * i + pre.length) /\ StB w18.heap.size qb Wb W' := ⟨_,rfl⟩
        have HPe := Lib.hid hPo
        have HDr := Lib.hid (show ∀ W,Below w2.heap.size w2 W -> Calls Tryz.prog 47 #[.pointer (some ⟨fc,0,none⟩),.int .u64 bj] W fun e w' => (∃ b,e = .returned (.bool b)) /\ PoD w' from fun W hB => by
         have h3 := hI2.below hB
         rw [<- hfc]
         refine (h3.drop hc4 hkl (by have := HI.out.2.1;have := HLe.out;omega) bj).mono ?_
         rintro e w' ⟨he,⟨v3,l3,m3,n3,q1,q2,q3⟩,hkt,hst⟩
         rw [hPo]
         exact ⟨he,h3.kept hkt ⟨v3,l3,m3,n3,q1,q2,by omega⟩,⟨v3,l3,m3,n3,q1,q2,q3⟩,(StB.of_below hB2).trans ((StB.of_below hB).trans hst)⟩)
        have HB2 := Lib.hid hB2
        clear hI2 hS2 hn2 hm2 hc4 hfc hkl hPo hB2 ci cg
        refine wpIn_region_valsA [Is (.pointer (some ⟨sb,0,none⟩)),Is (.int .u64 cv),Is (.pointer (some ⟨sb,0,none⟩)),Is (.pointer (some ⟨sb,2,none⟩)),Is (.pointer (some ⟨sb,2 + cc,none⟩)),Is (.pointer (some ⟨fc,0,none⟩)),Is (.int .u64 bj),Any]
         (fun _ _ _ => True) (fun L _ W => (L 7 = false -> Below w2.heap.size w2 W) /\ (L 7 = true -> PoD W)) (by kernel_rfl) (by kernel_rfl) (by kernel_rfl) (by kernel_rfl) (by kernel_rfl) ?hst ?h0 ⟨?o0,?o1,?o2,?o3,?o4,?o5,?o6,?o7,trivial⟩ ?he
        any_goals (intro L vs A W H hf hd K hK)
        case hst =>
         exact ⟨(fun _ _ _ _ _ _ h _ => h),(fun _ _ _ _ _ _ h _ => h),(fun _ _ _ _ _ _ h _ => h),(fun _ _ _ _ _ _ h _ => h),(fun _ _ _ _ _ _ h _ => h),(fun _ _ _ _ _ _ h _ => h),(fun _ _ _ _ _ _ h _ => h),(fun _ _ _ _ _ _ h _ => h),trivial⟩
        case h0 =>
         exact ⟨fun _ => (Below.refl _ w2).drew,fun h => by cases h⟩
        case o0 => have e6 : A.tmps[6]?.getD undef = .pointer (some ⟨pb,0,none⟩) := H.old 6 (by kernel_rfl);have n2 := H.notYet 2 0 rfl hf (by kernel_rfl);have n3 := H.notYet 3 2 rfl n2 (by kernel_rfl);have n4 := H.notYet 4 3 rfl n3 (by kernel_rfl);have n5 := H.notYet 5 4 rfl n4 (by kernel_rfl);have n7 := H.notYet 7 5 rfl n5 (by kernel_rfl);have d0 := ((H.glob.1 n7).cell (p := ⟨pb,0,none⟩) HX2.out.1).trans HX2.out.2.1;go_simp;exact hK _ _ (trivial) rfl (H.glob)
        case o1 => have e9 : A.tmps[9]?.getD undef = .pointer (some ⟨g9,0,none⟩) := H.old 9 (by kernel_rfl);have n4 := H.notYet 4 1 rfl hf (by kernel_rfl);have n5 := H.notYet 5 4 rfl n4 (by kernel_rfl);have n7 := H.notYet 7 5 rfl n5 (by kernel_rfl);have d0 := ((H.glob.1 n7).cell (p := ⟨g9,0,none⟩) HX2.out.2.2.1).trans HX2.out.2.2.2.1;go_simp;exact hK _ _ (trivial) rfl (H.glob)
        case o2 => have e83 := H.is 0 83 rfl rfl rfl (deps_of' hd 0 (by kernel_rfl)) (by kernel_rfl);go_simp;exact hK _ _ (trivial) rfl (H.glob)
        case o3 => have e85 := H.is 2 85 rfl rfl rfl (deps_of' hd 2 (by kernel_rfl)) (by kernel_rfl);go_simp;exact hK _ _ (trivial) rfl (H.glob)
        case o4 => have e86 := H.is 3 86 rfl rfl rfl (deps_of' hd 3 (by kernel_rfl)) (by kernel_rfl);have e84 := H.is 1 84 rfl rfl rfl (deps_of' hd 1 (by kernel_rfl)) (by kernel_rfl);have hx1 := HX3.out.1;have hx2 := HX3.out.2.1;have hx3 := HX3.out.2.2;go_simp;exact hK _ _ (trivial) rfl (H.glob)
        case o5 => have e87 := H.is 4 87 rfl rfl rfl (deps_of' hd 4 (by kernel_rfl)) (by kernel_rfl);have n7 := H.notYet 7 5 rfl hf (by kernel_rfl);have d0 := ((H.glob.1 n7).cell (p := ⟨sb,2 + cc,none⟩) HX2.out.2.2.2.2.1).trans HX2.out.2.2.2.2.2;go_simp;exact hK _ _ (trivial) rfl (H.glob)
        case o6 => have e12 : A.tmps[12]?.getD undef = .int .u64 bj := H.old 12 (by kernel_rfl);go_simp;exact hK _ _ (trivial) rfl (H.glob)
        case o7 => have e88 := H.is 5 88 rfl rfl rfl (deps_of' hd 5 (by kernel_rfl)) (by kernel_rfl);have e89 := H.is 6 89 rfl rfl rfl (deps_of' hd 6 (by kernel_rfl)) (by kernel_rfl);have HB := Lib.hid (H.glob.1 hf);have HL := Lib.hid (HDr.out W HB.out);go_simp;refine HL.out.mono ?_;rintro e w' ⟨⟨dv,rfl⟩,hP⟩;go_simp;exact hK _ _ trivial trivial ⟨fun h => by simp [lset] at h,fun _ => hP⟩
        case he =>
         intro vs W hlen hv
         match vs,hlen,hv with
         | [x0_,x1_,x2_,x3_,x4_,x5_,x6_,x7_],_,hv =>
         obtain rfl : (.pointer (some ⟨sb,0,none⟩)) = x0_ := by obtain ⟨z,h1,h2⟩ := hv 0 _ rfl;cases h1;exact h2.symm
         obtain rfl : (.int .u64 cv) = x1_ := by obtain ⟨z,h1,h2⟩ := hv 1 _ rfl;cases h1;exact h2.symm
         obtain rfl : (.pointer (some ⟨sb,0,none⟩)) = x2_ := by obtain ⟨z,h1,h2⟩ := hv 2 _ rfl;cases h1;exact h2.symm
         obtain rfl : (.pointer (some ⟨sb,2,none⟩)) = x3_ := by obtain ⟨z,h1,h2⟩ := hv 3 _ rfl;cases h1;exact h2.symm
         obtain rfl : (.pointer (some ⟨sb,2 + cc,none⟩)) = x4_ := by obtain ⟨z,h1,h2⟩ := hv 4 _ rfl;cases h1;exact h2.symm
         obtain rfl : (.pointer (some ⟨fc,0,none⟩)) = x5_ := by obtain ⟨z,h1,h2⟩ := hv 5 _ rfl;cases h1;exact h2.symm
         obtain rfl : (.int .u64 bj) = x6_ := by obtain ⟨z,h1,h2⟩ := hv 6 _ rfl;cases h1;exact h2.symm
         intro L hall hG
         clear hv hlen
         have HG := Lib.hid (hG.2 (hall 7 (by decide)))
         clear hG hall
         simp only [fill,if_true]
         simp [Act.put]
         have HG2 := Lib.hid (show OfB w w18 W sb B mb pb ib g9 qb N sl i cv uv f Ds (pre.length + 1) /\ (∃ v l m n,SlS w.heap.size W sb B mb N sl f v l m n /\ n <= 100 * i + 15 + (pre.length + 1) /\ m <= 100 * i + pre.length) /\ StB w18.heap.size qb Wb W from by have := HG.out;rw [HPe.out] at this;exact this)
         obtain ⟨hI3,⟨v3,l3,m3,n3,hS3,hn3,hm3⟩,hst3⟩ := HG2.out
         obtain ⟨D3,hD3⟩ := hS3.map
         have cp := (hI3.p.cell 0).trans (show _ = some (Value.pointer (some ⟨sb,0,none⟩)) from rfl)
         have c6 : W.cell? ⟨sb,6,none⟩ = some (.map (some mb)) := (hS3.slab.cell 6).trans rfl
         have HD3 := Lib.hid hD3
         have HS3 := Lib.hid (And.intro hS3 (And.intro hn3 (And.intro hm3 (And.intro hI3 hst3))))
         have hmx : m3 < maxLen := by unfold maxLen;have := HI.out.2.1;have := HLe.out;omega
         have HMx := Lib.hid hmx
         clear hI3 hS3 hn3 hm3 hst3 hD3 HG HG2 HPe HDr HX2 HX3 hmx
         gi_wp2_with (gi_at_mapUpdate;refine wpListIn_mapUpdate_own _ rfl _ _ _ 111 rfl 39 3 (Maps.int_keyed Tryz.underlying39) Tryz.underlying111 _ mb m3 D3 rfl HD3.out HMx.out _ _ _ rfl rfl (Maps.keyOf_int_mk Tryz.underlying39 (addr_wf HBr.out.1 (by have := HBr.out.2;omega))) _ [] (plainElem_int Tryz.underlying3 (i64_wfK (x := 2) (by decide) (by decide))) ?_;intro w4 hown4 hgrow4)
         have hz := HS3.out.1.mapped ((Keeps.refl (fun j => some mb = some j) W).grown hgrow4 (fun j e => .inl e)) hown4
         have hIe := HS3.out.2.2.2.1.kept hz.2 ⟨v3,l3,m3 + 1,n3,hz.1,HS3.out.2.1,by have := HS3.out.2.2.1;omega⟩
         have hste : StB w18.heap.size qb Wb w4 := HS3.out.2.2.2.2.trans (StB.of_keeps ((Keeps.refl (fun j => some mb = some j) W).grown hgrow4 (fun j e => .inl e)) (fun j e => by cases e;exact .inl HCo.out.2.1) (fun e => by
          have h9 := HS3.out.2.2.2.1.q
          obtain ⟨D9,es,ck,hm9,_⟩ := HS3.out.1.map
          cases e
          unfold Blk at h9
          rw [h9] at hm9
          cases hm9))
         exact ⟨hste.1,hste.2,by show OfB _ _ _ _ _ _ _ _ _ _ _ _ _ _ _ _ _ (pre ++ [x]).length;rw [List.length_append];exact hIe⟩
       case done =>
        rintro D xs W hD rfl hIb hKd
        rw [<- HT.out]
        simp
        have HIb := Lib.hid hIb
        have HKd := Lib.hid (And.intro hD hKd)
        have ci := (hIb.b.cell 0).trans (show _ = some (Value.int .i64 (i : Int)) from rfl)
        have hlen64 : (bitsL uu).length <= 64 := by
         unfold bitsL bitsTo
         rw [List.length_map]
         exact Nat.le_trans (List.length_filter_le _ _) (by rw [List.length_range];exact Nat.le_refl _)
        have HL64 := Lib.hid hlen64
        obtain ⟨nb,hnb⟩ : ∃ nb,W.heap.size = nb := ⟨_,rfl⟩
        have Hnb := Lib.hid hnb
        have hwi : IntKind.i64.wrap ((i : Int) + 1) = (i : Int) + 1 := i64_id _ (by omega)
        clear hIb hD hKd hlen64
        go_wp2_with (fail)
        refine ⟨OfI.mk (ib := nb) (i := i + 1) (f := f) (Ds := D :: Ds) ?rel ?eq,?mu⟩
        case eq =>
         rw [List.map_cons,Hds.out]
         rfl
        case rel =>
         have hB : Below W.heap.size W (W.alloc (.cells #[.int .i64 ((i : Int) + 1)] 3)) := (Below.refl _ W).alloc (Nat.le_refl _) _
         have h1 := HIb.out.below hB
         have hb1 := Blk.new W #[.int .i64 ((i : Int) + 1)] 3
         rw [Hnb.out] at hb1
         obtain ⟨v2,l2,m2,n2,hS2,hn2,hm2⟩ := h1.s
         have hDs : D ∉ Ds := fun h => by have := HCo.out.2.2 D h;have := HKd.out.1;omega
         exact ⟨⟨v2,l2,m2,n2,hS2,by have := HL64.out;omega,by have := HL64.out;omega⟩,h1.p,by exact_mod_cast hb1,by have := HLe.out;omega,⟨List.nodup_cons.2 ⟨hDs,h1.m.1⟩,fun D' hD' => by
          rcases List.mem_cons.1 hD' with rfl | hD'
          ·exact ⟨Nat.le_trans HCo.out.1 HKd.out.1,(hB.block D' (Array.getElem?_eq_some_iff.1 HKd.out.2).1).trans HKd.out.2⟩
          ·exact h1.m.2 D' hD'⟩,h1.k,HR.out.z.1,by have := HIb.out.k.size;have := Hnb.out;omega⟩
        case mu =>
         have hc1 : (W.alloc (.cells #[.int .i64 ((i : Int) + 1)] 3)).cell? ⟨nb,0,none⟩ = some (.int .i64 ((i : Int) + 1)) := by
          have hb1 := Blk.new W #[.int .i64 ((i : Int) + 1)] 3
          rw [Hnb.out] at hb1
          exact hb1.cell 0
         have hc2 : wr.cell? ⟨ib,0,none⟩ = some (.int .i64 (i : Int)) := (HR.out.b.cell 0).trans rfl
         show (match (W.alloc (.cells #[.int .i64 ((i : Int) + 1)] 3)).cell? ⟨nb,0,none⟩ with | some (.int _ i) => 100 - i.toNat | _ => 0) < (match wr.cell? ⟨ib,0,none⟩ with | some (.int _ i) => 100 - i.toNat | _ => 0)
         rw [hc1,hc2]
         show 100 - ((i : Int) + 1).toNat < 100 - (i : Int).toNat
         omega
       case stop =>
        intro D c pre W _ _ h
        exact h.elim
    ·have b2 : ¬ (i : Int) <= (sl : Int) := by omega
     have cp := (HR.out.p.cell 0).trans (show _ = some (Value.pointer (some ⟨sb,0,none⟩)) from rfl)
     go_wp2_with (fail)
     rw [<- HQ0.out,<- Hds.out]
     refine leaves_marks Ds wr HR.out.m (fun W' hW' => ?_)
     obtain ⟨v2,l2,m2,n2,hS2,hn2,hm2⟩ := HR.out.s
     have hnd : ¬ (w.heap.size <= sb /\ ∃ x,wr.heap[sb]? = some (Obj.deferred x)) := fun ⟨_,x,hx⟩ => by
      have h9 := hS2.slab
      unfold Blk at h9
      rw [h9] at hx
      cases hx
     refine ⟨.tuple #[.pointer (some ⟨sb,0,none⟩),.int .i64 0],?_,⟨sb,B,mb,f,rfl,?_,HR.out.z.1,?_⟩⟩
     ·simp [results,Tryz.results24,go_sem]
     ·have h1 := hS2.slab.kept hW' hnd
      rw [<- HNn.out] at h1
      exact h1
     ·exact HR.out.k.trans ⟨hW'.os,hW'.tape,hW'.output,hW'.size,fun j hj => hW'.block j (Nat.lt_of_lt_of_le hj HR.out.k.size) (fun e => by have := e.1;omega)⟩
end Go.Proofs.YtodgfbjjjgohgaaGreat
