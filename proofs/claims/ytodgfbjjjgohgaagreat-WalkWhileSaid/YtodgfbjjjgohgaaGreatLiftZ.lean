/-
 FROM A LAW's WALK TO ITS ROW: the arguments read as before in whatever world keeps what was.
-/
import Derived.WalkKit
import Derived.ProofKit
import Derived.WalkSmall
import Derived.Below
import Derived.Test.YtodgfbjjjgohgaaGreatChecked
import Derived.Test.YtodgfbjjjgohgaaGreatInvGZ
import Derived.RangeFuncNested
import Derived.RangeFuncBound
import Derived.RangeFuncCalls
import Derived.RangeFuncLeaves
import Derived.RangeFuncBox
import Derived.RangeFuncMany
import Derived.Shelf.Abstract
import Derived.Shelf.RegionOpen
import Derived.OwnWalkIn
import Derived.TacticsInMore
import Derived.RegionIn
import Derived.LoopNIn
import Derived.LoopIn
import Derived.Sort.BigQuietIn
import Derived.Sort.QuietIn
import Derived.OpenShut
import Derived.ShutString
import Derived.WideKeyArgs
import Derived.ChangeSame
import Derived.Deep.Slices
import Derived.Deep.Fields
namespace Go.Proofs.YtodgfbjjjgohgaaGreat
open Go.RowKit

structure Keeps (S : Nat -> Prop) (w w' : World) : Prop where
 os : w'.os = w.os
 tape : w'.tape = w.tape
 output : w'.output = w.output
 size : w.heap.size <= w'.heap.size
 block : ∀ k,k < w.heap.size -> ¬ S k -> w'.heap[k]? = w.heap[k]?

def NoB : Nat -> Prop := fun _ => False

theorem Keeps.refl (S : Nat -> Prop) (w : World) : Keeps S w w := ⟨rfl,rfl,rfl,Nat.le_refl _,fun _ _ _ => rfl⟩
theorem Keeps.mono {S S' : Nat -> Prop} {w w' : World} (h : Keeps S w w') (hs : ∀ k,k < w.heap.size -> S k -> S' k) : Keeps S' w w' :=
 ⟨h.os,h.tape,h.output,h.size,fun k hk hn => h.block k hk (fun hS => hn (hs k hk hS))⟩
theorem Keeps.trans {S : Nat -> Prop} {a b c : World} (h : Keeps S a b) (k : Keeps S b c) : Keeps S a c :=
 ⟨k.os.trans h.os,k.tape.trans h.tape,k.output.trans h.output,Nat.le_trans h.size k.size,
  fun i hi hn => (k.block i (Nat.lt_of_lt_of_le hi h.size) hn).trans (h.block i hi hn)⟩
theorem Keeps.trans' {S S' : Nat -> Prop} {a b c : World} (h : Keeps S a b) (k : Keeps S' b c) (hs : ∀ i,i < a.heap.size -> S' i -> S i) : Keeps S a c :=
 ⟨k.os.trans h.os,k.tape.trans h.tape,k.output.trans h.output,Nat.le_trans h.size k.size,
  fun i hi hn => (k.block i (Nat.lt_of_lt_of_le hi h.size) (fun hS => hn (hs i hi hS))).trans (h.block i hi hn)⟩
theorem Keeps.drew {S : Nat -> Prop} {a w : World} (h : Keeps S a w) : Keeps S a w.drew := ⟨h.os,h.tape,h.output,h.size,h.block⟩
theorem Keeps.drewN {S : Nat -> Prop} {a w : World} (h : Keeps S a w) (n : Nat) : Keeps S a (w.drewN n) := ⟨h.os,h.tape,h.output,h.size,h.block⟩
theorem Keeps.alloc {S : Nat -> Prop} {a w : World} (h : Keeps S a w) (o : Obj) : Keeps S a (w.alloc o) :=
 h.trans ⟨rfl,rfl,rfl,by simp,fun k hk _ => Below.heap_alloc _ _ _ (by omega)⟩
theorem Keeps.setCell {S : Nat -> Prop} {a w : World} (h : Keeps S a w) {p : Addr} (hp : S p.block ∨ a.heap.size <= p.block) (u : Value) : Keeps S a (w.setCell p u) :=
 ⟨h.os,h.tape,h.output,by simpa [World.setCell] using h.size,fun k hk hn => by
  rw [Below.heap_setCell _ _ _ _ (fun e => by subst e;rcases hp with hp | hp;exact hn hp;omega)]
  exact h.block k hk hn⟩
theorem Keeps.grown {S : Nat -> Prop} {a w w' : World} {row : Option Nat} (h : Keeps S a w) (hg : w.grownBy w' row) (hr : ∀ k,row = some k -> S k ∨ a.heap.size <= k) : Keeps S a w' :=
 ⟨hg.os.trans h.os,hg.tape.trans h.tape,hg.output.trans h.output,Nat.le_trans h.size hg.size,fun k hk hn => by
  have hlt : k < w.heap.size := Nat.lt_of_lt_of_le hk h.size
  rw [hg.block k hlt (fun e => by rcases hr k e.symm with hp | hp;exact hn hp;omega)]
  exact h.block k hk hn⟩
theorem Keeps.below {a w : World} (h : Keeps NoB a w) : Below a.heap.size a w := ⟨h.os,h.tape,h.output,h.size,fun k hk => h.block k hk id⟩
theorem Keeps.of_below {a w : World} {B : Nat} (h : Below B a w) : Keeps (fun k => B <= k) a w := ⟨h.os,h.tape,h.output,h.size,fun k _ hn => h.block k (by omega)⟩
theorem Keeps.of_below' {a w : World} (h : Below a.heap.size a w) : Keeps NoB a w := ⟨h.os,h.tape,h.output,h.size,fun k hk _ => h.block k hk⟩
theorem Keeps.cell {S : Nat -> Prop} {w w' : World} (h : Keeps S w w') {p : Addr} (hp : p.block < w.heap.size) (hn : ¬ S p.block) : w'.cell? p = w.cell? p := World.cell?_of_block (w := w) (h.block p.block hp hn)
def Blk (w : World) (b : Nat) (C : Array Value) (t : TypeId) : Prop := w.heap[b]? = some (.cells C t (0,0))

theorem Blk.lt {w : World} {b : Nat} {C : Array Value} {t : TypeId} (h : Blk w b C t) : b < w.heap.size := (Array.getElem?_eq_some_iff.1 h).1
theorem Blk.cell {w : World} {b : Nat} {C : Array Value} {t : TypeId} (h : Blk w b C t) (i : Nat) : w.cell? ⟨b,i,none⟩ = C[i]? := by
 unfold Blk at h;simp [World.cell?,h]
theorem Blk.frozen {w : World} {b : Nat} {C : Array Value} {t : TypeId} (h : Blk w b C t) (i : Nat) : w.frozen? ⟨b,i,none⟩ = false := by
 unfold Blk at h;simp [World.frozen?,h]
theorem Blk.set {w : World} {b : Nat} {C : Array Value} {t : TypeId} (h : Blk w b C t) (i : Nat) (v : Value) : Blk (w.setCell ⟨b,i,none⟩ v) b (C.setIfInBounds i v) t := by
 unfold Blk at *
 simp [World.setCell,Array.getElem?_modify,h]
theorem Blk.other {w : World} {b b' : Nat} {C : Array Value} {t : TypeId} (h : Blk w b C t) (i : Nat) (v : Value) (hne : b ≠ b') : Blk (w.setCell ⟨b',i,none⟩ v) b C t := by
 unfold Blk at *
 rw [Below.heap_setCell _ _ _ _ (by exact hne)];exact h
theorem Blk.alloc {w : World} {b : Nat} {C : Array Value} {t : TypeId} (h : Blk w b C t) (o : Obj) : Blk (w.alloc o) b C t := by
 have := h.lt
 unfold Blk at *
 rw [Below.heap_alloc _ _ _ this];exact h
theorem Blk.drew {w : World} {b : Nat} {C : Array Value} {t : TypeId} (h : Blk w b C t) : Blk w.drew b C t := h
theorem Blk.new (w : World) (C : Array Value) (t : TypeId) : Blk (w.alloc (.cells C t)) w.heap.size C t := by
 unfold Blk World.alloc;simp
theorem Blk.kept {S : Nat -> Prop} {w w' : World} {b : Nat} {C : Array Value} {t : TypeId} (h : Blk w b C t) (hk : Keeps S w w') (hn : ¬ S b) : Blk w' b C t :=
 (hk.block b h.lt hn).trans h
theorem Blk.grown {w w' : World} {row : Option Nat} {b : Nat} {C : Array Value} {t : TypeId} (h : Blk w b C t) (hg : w.grownBy w' row) (hn : some b ≠ row) : Blk w' b C t :=
 (hg.block b h.lt hn).trans h

theorem own_shape {w : World} {base : Nat} {e : TypeId} {v : Value} {n : Nat} {xs : List Value} (h : w.ownsRow base e 1 v n xs) (hn : 0 < n) :
  ∃ g cap,v = .slice (some ⟨g,0,none⟩) n cap /\ base <= g /\ g < w.heap.size /\ n <= cap /\ cap <= maxLen /\ xs.length = n /\ (∀ i,i < n -> w.cell? ⟨g,i,none⟩ = xs[i]?) /\ ∀ i,w.frozen? ⟨g,i,none⟩ = false := by
 obtain ⟨hl,⟨_,h0⟩ | ⟨g,cap,cur,rfl,hb,hg,h1,h2,hsz,ht⟩⟩ := h
 ·omega
 ·refine ⟨g,cap,rfl,hb,(Array.getElem?_eq_some_iff.1 hg).1,h1,h2,by omega,fun i hi => ?_,fun i => by simp [World.frozen?,hg]⟩
  simp only [World.cell?,hg]
  rw [<- ht]
  simp [hi]

def lenOf : Value -> Nat | .slice _ n _ => n | _ => 0

theorem own_base {w : World} {base : Nat} {e : TypeId} {size : Nat} {v : Value} {n : Nat} {xs : List Value} (h : w.ownsRow base e size v n xs) : ∀ g,v.ownBlock = some g -> base <= g := by
 obtain ⟨_,⟨rfl,_⟩ | ⟨g,cap,cur,rfl,hb,_⟩⟩ := h
 ·intro g hg;cases hg
 ·intro g' hg;cases hg;exact hb

theorem own_len {w : World} {base : Nat} {e : TypeId} {size : Nat} {v : Value} {n : Nat} {xs : List Value} (h : w.ownsRow base e size v n xs) : lenOf v = n := by
 obtain ⟨_,⟨rfl,rfl⟩ | ⟨g,cap,cur,rfl,_⟩⟩ := h <;> rfl

theorem own_cells {w : World} {base : Nat} {e : TypeId} {size : Nat} {v : Value} {n : Nat} {xs : List Value} (h : w.ownsRow base e size v n xs) :
  ∀ (j : Nat) (o : Obj),v.ownBlock = some j -> w.heap[j]? = some o -> ∃ c t f,o = .cells c t f := by
 obtain ⟨_,⟨rfl,_⟩ | ⟨g,cap,cur,rfl,hb,hh,_⟩⟩ := h
 ·intro j o hj;cases hj
 ·intro j o hj ho
  cases hj
  rw [hh] at ho;cases ho;exact ⟨_,_,_,rfl⟩
theorem own_slice {w : World} {base : Nat} {e : TypeId} {size : Nat} {v : Value} {n : Nat} {xs : List Value} (h : w.ownsRow base e size v n xs) : ∃ a l c,v = .slice a l c := by
 obtain ⟨_,⟨rfl,_⟩ | ⟨g,cap,cur,rfl,_⟩⟩ := h
 ·exact ⟨_,_,_,rfl⟩
 ·exact ⟨_,_,_,rfl⟩

theorem own_mono {w : World} {base base' : Nat} {e : TypeId} {size : Nat} {v : Value} {n : Nat} {xs : List Value} (h : w.ownsRow base e size v n xs) (hb : base' <= base) : w.ownsRow base' e size v n xs := by
 obtain ⟨hl,h2 | ⟨g,cap,cur,hv,hg,r⟩⟩ := h
 ·exact ⟨hl,.inl h2⟩
 ·exact ⟨hl,.inr ⟨g,cap,cur,hv,Nat.le_trans hb hg,r⟩⟩

theorem own_shapeK {w : World} {base : Nat} {e : TypeId} {v : Value} {n sz : Nat} {xs : List Value} (h : w.ownsRow base e sz v n xs) (hn : 0 < n) :
  ∃ g cap,v = .slice (some ⟨g,0,none⟩) n cap /\ base <= g /\ g < w.heap.size /\ n <= cap /\ cap <= maxLen /\ xs.length = n * sz /\ (∀ i,i < n * sz -> w.cell? ⟨g,i,none⟩ = xs[i]?) /\ ∀ i,w.frozen? ⟨g,i,none⟩ = false := by
 obtain ⟨hl,⟨_,h0⟩ | ⟨g,cap,cur,rfl,hb,hg,h1,h2,hsz,ht⟩⟩ := h
 ·omega
 ·refine ⟨g,cap,rfl,hb,(Array.getElem?_eq_some_iff.1 hg).1,h1,h2,hl,fun i hi => ?_,fun i => by simp [World.frozen?,hg]⟩
  simp only [World.cell?,hg]
  rw [<- ht]
  simp [hi]

end Go.Proofs.YtodgfbjjjgohgaaGreat
namespace Go.Proofs.YtodgfbjjjgohgaaGreat
open Go.RowKit Go.Shelf
attribute [local go_sem] Oper.semAt_some

def encC (g o n : Nat) (i : Fin n) : Array Value := #[.slice (some ⟨g,o + 8 * i.val,none⟩) 8 8]
def KpC (b : Nat) (A B : World) : Prop := A.heap.size <= B.heap.size /\ ∀ k,(k = b ∨ k = b + 1) -> k < A.heap.size -> B.heap[k]? = A.heap[k]?
theorem kpC_t {bc : Nat} {A B C : World} (h : KpC bc A B) (k : KpC bc B C) : KpC bc A C := ⟨Nat.le_trans h.1 k.1,fun i hi hb => (k.2 i hi (by have := h.1;omega)).trans (h.2 i hi hb)⟩
theorem kpC_b {w : World} {bc : Nat} (hn : bc + 1 < w.heap.size) (W : World) (l : Nat) (o o' : Obj) (hl : w.heap.size <= l) (h : W.heap[l]? = some o) (hc : o.isCells = false) (hw : o.isWalk = false) : KpC bc W (W.putObj l o') :=
 ⟨(belowK_b (w := w) (n₀ := bc + 2) (by omega) W l o o' hl h hc hw).size,fun k hk _ => (belowK_b (w := w) (n₀ := bc + 2) (by omega) W l o o' hl h hc hw).block k (by omega)⟩
theorem fin_take (n k : Nat) (h : k < n) : (List.finRange n).take (k + 1) = (List.finRange n).take k ++ [⟨k,h⟩] := by
 rw [List.take_succ_eq_append_getElem (by simpa using h)]
 simp

set_option maxRecDepth 100000 in
set_option maxHeartbeats 1000000 in
theorem chunk_stops (mm : Nat) (hmm : 1 <= mm) (n g o c b : Nat) (p : Option Addr) (hp : 0 < n -> p = some ⟨g,o,none⟩) (w : World) (hn : n <= 200000) (hc : 8 * n <= c) (h1 : Blk w b #[.slice p (8 * n) c] 28) (h2 : Blk w (b + 1) #[.int .i64 8] 3) :
  SeqStopsK Fence.wide mm Tryz.prog 60 #[.pointer (some ⟨b,0,none⟩),.pointer (some ⟨b + 1,0,none⟩)] (encC g o n) (KpC b) (fun xs => xs = List.finRange n) (fun pre => pre <+: List.finRange n) n w := by
 intro l J Jx W hW hAb _ hY h0
 have B1 : Blk W b #[.slice p (8 * n) c] 28 := (hW.block b h1.lt).trans h1
 have B2 : Blk W (b + 1) #[.int .i64 8] 3 := (hW.block (b + 1) h2.lt).trans h2
 clear h1 h2 hW
 refine callsIn_of_wp Tryz.func60 rfl trivial ?_ rfl
 simp only [Tryz.ntmps60,List.size_toArray,List.length_cons,List.length_nil,Nat.reduceAdd,Nat.reduceSub,Array.replicate_succ,Array.replicate_zero,List.push_toArray,List.append_toArray,List.nil_append,List.cons_append]
 gi_wp2
 gi_loopw [4] (fun iv wr => ∃ k : Nat,k <= n /\ iv = .int .i64 ((8 * k : Nat) : Int) /\ J ((List.finRange n).take k) wr /\ Hid (Blk wr b #[.slice p (8 * n) c] 28) /\ Hid (Blk wr (b + 1) #[.int .i64 8] 3)) (fun iv _ => 8 * n - (intOf iv).toNat)
 case atStart => exact ⟨0,Nat.zero_le _,rfl,h0,Lib.hid B1,Lib.hid B2⟩
 case round =>
  obtain ⟨k,hk,rfl,hJ,H1,H2⟩ := hrel
  have c1 := H1.out.cell 0
  rw [show (#[Value.slice p (8 * n) c] : Array Value)[0]? = some (.slice p (8 * n) c) from rfl] at c1
  have c2 := H2.out.cell 0
  rw [show (#[Value.int .i64 8] : Array Value)[0]? = some (.int .i64 8) from rfl] at c2
  by_cases hlt : k < n
  ·obtain rfl := hp (by omega)
   have b1 : ((8 * k : Nat) : Int) < ((8 * n : Nat) : Int) := by omega
   have b2 : (0 : Int) <= ((8 * k : Nat) : Int) := by omega
   have b3 : ((8 * k : Nat) : Int) <= ((8 * n : Nat) : Int) := by omega
   have HE := Lib.hid (fin_take n k hlt)
   obtain ⟨q,hq⟩ : ∃ q,8 * k = q := ⟨_,rfl⟩
   obtain ⟨m,hm⟩ : ∃ m,8 * n = m := ⟨_,rfl⟩
   rw [hq] at b1 b2 b3 ⊢
   rw [hm] at b1 b3 c1 hc H1 ⊢
   have HQ := Lib.hid (And.intro hq hm)
   have bq : (q : Int) <= 1600000 := by omega
   have bm : (m : Int) <= 1600000 := by omega
   have b4 : (8 : Int) <= ((m - q : Nat) : Int) := by omega
   have b5 : (q : Int) + 8 <= (m : Int) := by omega
   have b6 : (q : Int) + 8 <= (c : Int) := by omega
   have b7 : ((q : Int) + 8).toNat = q + 8 := by omega
   have b8 : ((q : Int)).toNat = q := by omega
   clear hq hm
   have hAb' := Lib.hid hAb
   have HY := Lib.hid hY
   clear hAb hY
   gi_wp2
   gi_quiet (fail)
   try rw [show min (8 : Int) ((m - q : Nat) : Int) = 8 by omega]
   have hJ2 : J ((List.finRange n).take k) (wr.drewN nq) := hAb'.out _ wr (wr.drewN nq) none hJ ⟨rfl,rfl,rfl,Nat.le_refl _,fun _ _ _ => rfl⟩ (fun r e => by cases e)
   have c1' : (wr.drewN nq).cell? ⟨b,0,none⟩ = some (.slice (some ⟨g,o,none⟩) m c) := c1
   have H1' := Lib.hid (show Blk (wr.drewN nq) b #[.slice (some ⟨g,o,none⟩) m c] 28 from H1.out)
   have H2' := Lib.hid (show Blk (wr.drewN nq) (b + 1) #[.int .i64 8] 3 from H2.out)
   have c2' : (wr.drewN nq).cell? ⟨b + 1,0,none⟩ = some (.int .i64 8) := c2
   obtain ⟨w2,hw2⟩ : ∃ w2,w2 = wr.drewN nq := ⟨_,rfl⟩
   rw [<- hw2] at hJ2 c1' c2' H1' H2' ⊢
   clear hw2 c1 c2
   obtain ⟨fn,tmps,assign,body,hy,hR⟩ := HY.out _ ⟨k,hlt⟩ w2 hJ2 (by simp;omega)
   dsimp only [encC] at hy
   rw [HQ.out.1] at hy
   gi_wp2
   refine hR.mono ?_
   rintro e W3 (⟨rfl,hJ3,hk3⟩ | ⟨rfl,hJx3⟩)
   ·have HB1 := Lib.hid ((hk3.2 b (.inl rfl) H1'.out.lt).trans H1'.out)
    have HB2 := Lib.hid ((hk3.2 (b + 1) (.inr rfl) H2'.out.lt).trans H2'.out)
    have c3 : W3.cell? ⟨b + 1,0,none⟩ = some (.int .i64 8) := by
     have : Blk W3 (b + 1) #[.int .i64 8] 3 := HB2.out
     rw [this.cell];rfl
    clear hk3
    gi_wp2
    go_roundw
    case rel => exact ⟨k + 1,hlt,by have := HQ.out.1;subst this;go_num,by rw [HE.out];exact hJ3,HB1,HB2⟩
    case measure => have := HQ.out;simp [intOf];omega
   ·have HP := Lib.hid (show (List.finRange n).take k ++ [⟨k,hlt⟩] <+: List.finRange n from by rw [<- HE.out];exact List.take_prefix _ _)
    gi_wp2
    refine bodyPost_ret (results_none rfl _ _ _) rfl ?_
    exact ⟨⟨_,rfl⟩,.inr ⟨_,HP.out,hJx3⟩⟩
  ·have hk2 : k = n := by omega
   subst hk2
   gi_wp2
   go_end0
   exact ⟨⟨_,rfl⟩,.inl ⟨_,rfl,by rwa [List.take_of_length_le (by simp)] at hJ⟩⟩
end Go.Proofs.YtodgfbjjjgohgaaGreat
namespace Go.Proofs.YtodgfbjjjgohgaaGreat
open Go.RowKit Go.ChangeShapes Go.WideShapes Go.Deep

theorem trodAll_stays {H : Type} {enc : TypeId × Value -> H} {P : Program} {W W' : World} {sp' : Nat -> Bool} (hl : laidOutB P = true) : ∀ {ts : List TypeId} {vs : List Value} {ds : List (DataW H)} {ps : List MemPlace},
  (ts.all fun t => P.readableRec t && decide (t < P.types.size)) = true -> DataW.TrodAll enc P W 0 (fun _ => true) true ts vs ds ps -> (∀ p ∈ ps,W.sameAt W' p) -> (∀ p ∈ ps,sp' p.block = true) -> DataW.TrodAll enc P W' 0 sp' true ts vs ds ps
 | [],[],[],_,_,h,_,_ => h
 | t :: ts,v :: vs,d :: ds,ps,ht,h,hs,hsp => by
  obtain ⟨p,q,h1,h2,rfl⟩ := h
  simp only [List.all_cons,Bool.and_eq_true,decide_eq_true_eq] at ht
  exact ⟨p,q,WideElems.Trod_stays hl ht.1.1 ht.1.2 h1 (fun x hx => hs x (List.mem_append_left _ hx)) (fun x hx => hsp x (List.mem_append_left _ hx)),
   trodAll_stays hl ht.2 h2 (fun x hx => hs x (List.mem_append_right _ hx)) (fun x hx => hsp x (List.mem_append_right _ hx)),rfl⟩
 | [],_ :: _,_,_,_,h,_,_ => by cases h
 | [],[],_ :: _,_,_,h,_,_ => by cases h
 | _ :: _,[],_,_,_,h,_,_ => by cases h
 | _ :: _,_ :: _,[],_,_,h,_,_ => by cases h

theorem law_post {H : Type} {enc : TypeId × Value -> H} {P : Program} {f : Func} {s : ChangeSpec} {W W' : World} {args : Array Value} {ds : List (DataW H)} {p before : List MemPlace} {tb : TypeId} (hl : laidOutB P = true)
  (hr : (f.params.toList.all fun t => P.readableRec t && decide (t < P.types.size)) = true) (hres : f.resultTypes = #[tb]) (hb : P.underlying tb = some .bool) (hv : s.vars = []) (hfn : s.fn H (ds ++ []) = ⟨[.lit (.bool true)],ds,[]⟩)
  (hW : DataW.Whole enc P f.params.toList s.vars false W args.toList ds [] before) (hA : DataW.TrodAll enc P W 0 (fun _ => true) true f.params.toList args.toList ds p) (hbel : Below W.heap.size W W') (hbp : before = p ++ []) :
  s.post enc P f false true false false W args (.bool true) W' := by
 have hlt : ∀ x ∈ p,x.block < W.heap.size := fun x hx => hW.lt x (by rw [hbp];simpa using hx)
 refine ⟨ds,[],before,[],p,[],hW,?_,?_,?_,?_,?_⟩
 ·rw [hres,hfn];exact trodAll_mk1 (shut_bool hb _)
 ·rw [hfn];exact trodAll_stays hl hr hA (fun x hx => hbel.same (hlt x hx)) (fun x hx => by simpa using hlt x hx)
 ·rw [hfn,hv];rfl
 ·exact hbel.frame _
 ·intro h;cases h
section
open Go.Deep
variable {H : Type} {enc : TypeId × Value -> H} {P : Program} {w : World} {base : Nat} {spare : Nat -> Bool} {held : Bool}
end


theorem u64_bounds {a : Int} (h : (Lit.int .u64 a).wf = true) : 0 <= a /\ a <= 18446744073709551615 := by
 simp [Lit.wf,IntKind.min,IntKind.max,IntKind.signed,IntKind.bits] at h
 omega
theorem i64_bounds {a : Int} (h : (Lit.int .i64 a).wf = true) : -9223372036854775808 <= a /\ a <= 9223372036854775807 := by
 simp [Lit.wf,IntKind.min,IntKind.max,IntKind.signed,IntKind.bits] at h
 omega
theorem spot_none {W : World} {a : Addr} {v : Value} (h : W.cell? a = some v) : a = ⟨a.block,a.off,none⟩ := by
 obtain ⟨b,o,s⟩ := a
 cases s with
 | none => rfl
 | some s =>
  simp [World.cell?] at h
  split at h <;> cases h

theorem open_nums {H : Type} {enc : TypeId × Value -> H} {P : Program} {W : World} {base : Nat} {v : Value} {d : DataW H} {p : List MemPlace} {t e : TypeId} {k : IntKind} (ht : P.underlying t = some (.slice e)) (he : P.underlying e = some (.int k)) (hC : P.cellsOf e = 1)
  (hv : Value.okWide P W .any base t v) (h : DataW.Trod enc P W 0 (fun _ => true) true t v d p) :
  ∃ (a : Option Addr) (len cap : Nat) (xs : List Int),v = .slice a len cap /\ xs.length = len /\ len <= maxLen /\ len <= cap /\ (∀ x ∈ xs,(Lit.int k x).wf = true) /\ (0 < len -> ∃ (g o : Nat),a = some ⟨g,o,none⟩ /\ g < W.heap.size ∧
   ∀ i,i < len -> W.cell? ⟨g,o + i,none⟩ = some (.int k (xs.getD i 0))) := by
 obtain ⟨a0,len0,cap0,rfl⟩ := okWide_slice ht hv
 obtain ⟨fuel,hf⟩ := h
 rcases open_ints (x := (d,p)) ht he hC hf with ⟨hcs,_⟩ | ⟨a,len,cap,zs,hcs,_,hl,hm,hlen,_,hc,hw⟩
 ·cases hcs
  exact ⟨none,0,0,[],rfl,rfl,by unfold maxLen;omega,Nat.le_refl _,(fun x hx => by cases hx),fun h => by omega⟩
 ·obtain ⟨rfl,rfl,rfl⟩ : a0 = some a /\ len0 = len /\ cap0 = cap := by
   have e1 := (List.cons.inj hcs).1
   exact ⟨(Value.slice.inj e1).1,(Value.slice.inj e1).2.1,(Value.slice.inj e1).2.2⟩
  have hlz : len0 <= zs.length := by rw [hlen];simp;exact hl
  refine ⟨some a,_,_,zs.take len0,rfl,by simp;omega,by omega,hl,fun x hx => hw x (List.mem_of_mem_take hx),fun hl0 => ?_⟩
  have h0 := hc 0 (by omega)
  rw [show a.add 0 = a by simp [Addr.add]] at h0
  have hsp := spot_none h0
  refine ⟨a.block,a.off,by rw [<- hsp],by have := World.block_lt_of_cell? W _ h0;exact this,fun i hil => ?_⟩
  rw [show (zs.take len0).getD i 0 = zs.getD i 0 by simp [hil]]
  rw [<- hc i (by omega)]
  congr 1
  rw [hsp]
  unfold Addr.add
  split
  ·rename_i h;simp [h]
  ·rfl
end Go.Proofs.YtodgfbjjjgohgaaGreat
