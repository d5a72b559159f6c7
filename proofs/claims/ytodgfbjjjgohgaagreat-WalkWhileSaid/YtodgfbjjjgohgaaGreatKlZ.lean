/-
 BLOCKS' TABLES IN MEMORY: slab.Slab.give: a contract.
-/
import Derived.Test.YtodgfbjjjgohgaaGreatKkZ
namespace Go.Proofs.YtodgfbjjjgohgaaGreat
open Go.RowKit Go.Maps
attribute [local go_sem] Oper.semAt_some
set_option linter.unusedVariables false

/-! . -/
def Own3 (B : Nat) (W : World) (i : Nat) : Prop := B <= i /\ ((∃ C t,W.heap[i]? = some (.cells C t (0,0)) /\ (t = 122 ∨ t = 142 ∨ t = 39)) ∨ ∃ es c,W.heap[i]? = some (.map es c))
def KpT (B : Nat) (W W' : World) : Prop := Keeps (Own3 B W) W W'
theorem KpT.trans {B : Nat} {a b c : World} (h : KpT B a b) (k : KpT B b c) : KpT B a c := by
 refine Keeps.trans' h k (fun i hi hS => ?_)
 by_cases hn : Own3 B a i
 ·exact hn
 ·have e := h.block i hi hn
  obtain ⟨hB,hS⟩ := hS
  rw [e] at hS
  exact ⟨hB,hS⟩
theorem KpT.of_below {B : Nat} {a b : World} (h : Below a.heap.size a b) : KpT B a b := (Keeps.of_below' h).mono (fun _ _ e => e.elim)
theorem KpT.below {B : Nat} {a b : World} (h : KpT B a b) (hB : B <= a.heap.size) : Below B a b := ⟨h.os,h.tape,h.output,h.size,fun k hk => h.block k (Nat.lt_of_lt_of_le hk hB) (fun e => by have := e.1;omega)⟩
theorem KpT.blk {B : Nat} {a b : World} (h : KpT B a b) {i : Nat} {C : Array Value} {t : TypeId} (hb : Blk a i C t) (h1 : t ≠ 122) (h2 : t ≠ 142) (h3 : t ≠ 39) : Blk b i C t := by
 refine (h.block i hb.lt (fun e => ?_)).trans hb
 obtain ⟨_,⟨C',t',he,ht⟩ | ⟨es,c,he⟩⟩ := e
 ·unfold Blk at hb
  rw [hb] at he
  cases he
  rcases ht with ht | ht | ht
  ·exact h1 ht
  ·exact h2 ht
  ·exact h3 ht
 ·unfold Blk at hb
  rw [hb] at he
  cases he
/-! . -/
def slC (N hb sl : Nat) (f : Nat -> Nat) (mb : Nat) : Array Value := #[.int .i64 N,.slice (some ⟨hb,0,none⟩) (1 + sl) (1 + sl),.pointer (some ⟨f 0,0,none⟩),.pointer (some ⟨f 1,0,none⟩),.pointer (some ⟨f 2,0,none⟩),.pointer (some ⟨f 3,0,none⟩),.map (some mb)]
def HdB (W : World) (hb sl : Nat) : Prop := ∃ C,Blk W hb C 122 /\ C.size = 2 * (1 + sl) /\ ∀ i,i < 1 + sl -> ∃ a b,C[i * 2]? = some (.int .i64 a) /\ C[i * 2 + 1]? = some (.int .u64 b)
structure SlS (B : Nat) (W : World) (sb hb mb N sl : Nat) (f : Nat -> Nat) (v : Nat -> Value) (l : Nat -> List Int) (m n : Nat) : Prop where
 slab : Blk W sb (slC N hb sl f mb) 115
 hd : HdB W hb sl
 set : ∀ c,c < 4 -> SetV W (f c) (v c) (l c) /\ (l c).length <= n
 map : ∃ D : DataW Unit,W.ownsMap Tryz.prog 39 (plainElem Tryz.prog 3) mb m D
 fne : ∀ c c',c < 4 -> c' < 4 -> c ≠ c' -> f c ≠ f c'
 vne : ∀ c c',c < 4 -> c' < 4 -> c ≠ c' -> ∀ g,(v c).ownBlock = some g -> (v c').ownBlock ≠ some g
 base : B <= hb /\ B <= mb /\ ∀ c,c < 4 -> B <= f c /\ ∀ g,(v c).ownBlock = some g -> B <= g
theorem HdB.kept {S : Nat -> Prop} {W W' : World} {hb sl : Nat} (h : HdB W hb sl) (hk : Keeps S W W') (hn : ¬ S hb) : HdB W' hb sl := by
 obtain ⟨C,h1,h2,h3⟩ := h
 exact ⟨C,h1.kept hk hn,h2,h3⟩
theorem HdB.set {W : World} {hb sl : Nat} (h : HdB W hb sl) {i : Nat} (hi : i < 1 + sl) (a : Int) : HdB (W.setCell ⟨hb,i * 2,none⟩ (.int .i64 a)) hb sl := by
 obtain ⟨C,h1,h2,h3⟩ := h
 refine ⟨_,h1.set _ _,by simpa using h2,fun j hj => ?_⟩
 obtain ⟨x,y,hx,hy⟩ := h3 j hj
 rw [Array.getElem?_setIfInBounds_ne (by omega : i * 2 ≠ j * 2 + 1)]
 by_cases e : i = j
 ·subst e
  exact ⟨a,y,by rw [Array.getElem?_setIfInBounds_self_of_lt (by omega)],hy⟩
 ·rw [Array.getElem?_setIfInBounds_ne (by omega)]
  exact ⟨x,y,hx,hy⟩
theorem HdB.setB {W : World} {hb sl : Nat} (h : HdB W hb sl) {i : Nat} (hi : i < 1 + sl) (a : Int) : HdB (W.setCell ⟨hb,i * 2 + 1,none⟩ (.int .u64 a)) hb sl := by
 obtain ⟨C,h1,h2,h3⟩ := h
 refine ⟨_,h1.set _ _,by simpa using h2,fun j hj => ?_⟩
 obtain ⟨x,y,hx,hy⟩ := h3 j hj
 rw [Array.getElem?_setIfInBounds_ne (by omega : i * 2 + 1 ≠ j * 2)]
 by_cases e : i = j
 ·subst e
  exact ⟨x,a,hx,by rw [Array.getElem?_setIfInBounds_self_of_lt (by omega)]⟩
 ·rw [Array.getElem?_setIfInBounds_ne (by omega)]
  exact ⟨x,y,hx,hy⟩
theorem HdB.cell {W : World} {hb sl : Nat} (h : HdB W hb sl) {i : Nat} (hi : i < 1 + sl) : ∃ a b,W.cell? ⟨hb,i * 2,none⟩ = some (.int .i64 a) /\ W.cell? ⟨hb,i * 2 + 1,none⟩ = some (.int .u64 b) /\ ∀ j,W.frozen? ⟨hb,j,none⟩ = false := by
 obtain ⟨C,h1,h2,h3⟩ := h
 obtain ⟨a,b,ha,hb'⟩ := h3 i hi
 exact ⟨a,b,(h1.cell _).trans ha,(h1.cell _).trans hb',fun j => h1.frozen j⟩
theorem HeapV.kept {S : Nat -> Prop} {w w' : World} {b : Nat} {v : Value} {l : List Int} (h : HeapV w b v l) (hk : Keeps S w w') (h1 : ¬ S b) (h2 : ∀ g,v.ownBlock = some g -> ¬ S g) : HeapV w' b v l :=
 ⟨h.blk.kept hk h1,own_keptK h.row hk h2,h.ne⟩
theorem SetV.kept {S : Nat -> Prop} {w w' : World} {b : Nat} {v : Value} {l : List Int} (h : SetV w b v l) (hk : Keeps S w w') (h1 : ¬ S b) (h2 : ∀ g,v.ownBlock = some g -> ¬ S g) : SetV w' b v l := ⟨h.hv.kept hk h1 h2,h.hp,h.nd⟩
theorem own_mapK {S : Nat -> Prop} {w w' : World} {mb m : Nat} {D : DataW Unit} (h : w.ownsMap Tryz.prog 39 (plainElem Tryz.prog 3) mb m D) (hk : Keeps S w w') (hn : ¬ S mb) : w'.ownsMap Tryz.prog 39 (plainElem Tryz.prog 3) mb m D := by
 obtain ⟨es,clock,hb,r⟩ := h
 exact ⟨es,clock,(hk.block mb (Array.getElem?_eq_some_iff.1 hb).1 hn).trans hb,r⟩
section
variable {B : Nat} {W W' : World} {sb hb mb N sl : Nat} {f : Nat -> Nat} {v : Nat -> Value} {l : Nat -> List Int} {m n : Nat}
theorem SlS.kept {S : Nat -> Prop} (h : SlS B W sb hb mb N sl f v l m n) (hk : Keeps S W W') (h1 : ¬ S sb) (h2 : ¬ S hb) (h3 : ¬ S mb) (h4 : ∀ c,c < 4 -> ¬ S (f c) /\ ∀ g,(v c).ownBlock = some g -> ¬ S g) : SlS B W' sb hb mb N sl f v l m n := by
 obtain ⟨D,hD⟩ := h.map
 exact ⟨h.slab.kept hk h1,h.hd.kept hk h2,fun c hc => ⟨(h.set c hc).1.kept hk (h4 c hc).1 (h4 c hc).2,(h.set c hc).2⟩,⟨D,own_mapK hD hk h3⟩,h.fne,h.vne,h.base⟩
theorem SlS.below (h : SlS B W sb hb mb N sl f v l m n) (hB : Below W.heap.size W W') : SlS B W' sb hb mb N sl f v l m n :=
 h.kept (Keeps.of_below' hB) (fun e => e) (fun e => e) (fun e => e) (fun _ _ => ⟨fun e => e,fun _ _ e => e⟩)
theorem SlS.mono {m' n' : Nat} (h : SlS B W sb hb mb N sl f v l m n) (hm : m <= m') (hn : n <= n') : SlS B W sb hb mb N sl f v l m' n' := by
 obtain ⟨D,es,clock,h1,h2,h3,h4⟩ := h.map
 exact ⟨h.slab,h.hd,fun c hc => ⟨(h.set c hc).1,Nat.le_trans (h.set c hc).2 hn⟩,⟨D,es,clock,h1,h2,Nat.le_trans h3 hm,h4⟩,h.fne,h.vne,h.base⟩
theorem SlS.f_blk (h : SlS B W sb hb mb N sl f v l m n) {c : Nat} (hc : c < 4) : ∃ C,Blk W (f c) C 142 := ⟨_,(h.set c hc).1.hv.blk⟩
theorem SlS.v_blk (h : SlS B W sb hb mb N sl f v l m n) {c g : Nat} (hc : c < 4) (hg : (v c).ownBlock = some g) : ∃ C,Blk W g C 39 := own_type (h.set c hc).1.hv.row hg
theorem blk_ne {W : World} {i j : Nat} {C C' : Array Value} {t t' : TypeId} (h : Blk W i C t) (k : Blk W j C' t') (hn : t ≠ t') : i ≠ j := fun e => by
 unfold Blk at h k
 rw [e,k] at h
 cases h
 exact hn rfl
theorem SlS.step {c : Nat} {v' : Value} {l' : List Int} (h : SlS B W sb hb mb N sl f v l m n) (hc : c < 4) (hB : B <= W.heap.size) (hs : SetV W' (f c) v' l') (hst : HStep (f c) (v c) v' W W') (hl : l'.length <= n + 1) :
  SlS B W' sb hb mb N sl f (fun i => if i = c then v' else v i) (fun i => if i = c then l' else l i) m (n + 1) /\ KpT B W W' := by
 obtain ⟨C0,hf0⟩ := h.f_blk hc
 have hkt : KpT B W W' := hst.1.mono (fun i hi e => by
  rcases e with rfl | e
  ·exact ⟨(h.base.2.2 c hc).1,.inl ⟨C0,_,hf0,.inr (.inl rfl)⟩⟩
  ·obtain ⟨C1,h1⟩ := h.v_blk hc e
   exact ⟨(h.base.2.2 c hc).2 i e,.inl ⟨C1,_,h1,.inr (.inr rfl)⟩⟩)
 have hX : ∀ {i : Nat} {C : Array Value} {t : TypeId},Blk W i C t -> t ≠ 142 -> t ≠ 39 -> ¬ (i = f c ∨ (v c).ownBlock = some i) := fun {i C t} hb h1 h2 e => by
  rcases e with rfl | e
  ·exact blk_ne hb hf0 h1 rfl
  ·obtain ⟨C1,h3⟩ := h.v_blk hc e
   exact blk_ne hb h3 h2 rfl
 obtain ⟨D,es,clock,hm1,hm2⟩ := h.map
 obtain ⟨CH,hH,_⟩ := h.hd
 refine ⟨⟨h.slab.kept hst.1 (hX h.slab (by decide) (by decide)),h.hd.kept hst.1 (hX hH (by decide) (by decide)),fun i hi => ?_,⟨D,own_mapK ⟨es,clock,hm1,hm2⟩ hst.1 (fun e => ?_)⟩,h.fne,fun i j hi hj hij g hg => ?_,h.base.1,h.base.2.1,fun i hi => ?_⟩,hkt⟩
 ·by_cases e : i = c
  ·subst e
   simp only [if_pos]
   exact ⟨hs,hl⟩
  ·simp only [if_neg e]
   refine ⟨(h.set i hi).1.kept hst.1 (fun x => ?_) (fun g hg x => ?_),Nat.le_succ_of_le (h.set i hi).2⟩
   ·rcases x with x | x
    ·exact h.fne i c hi hc e x
    ·obtain ⟨C1,h1⟩ := h.v_blk hc x
     obtain ⟨C2,h2⟩ := h.f_blk hi
     exact blk_ne h2 h1 (by decide) rfl
   ·rcases x with x | x
    ·obtain ⟨C1,h1⟩ := h.v_blk hi hg
     exact blk_ne h1 hf0 (by decide) x
    ·exact h.vne i c hi hc e g hg x
 ·rcases e with e | e
  ·unfold Blk at hf0
   rw [e,hf0] at hm1
   cases hm1
  ·obtain ⟨C1,h1⟩ := h.v_blk hc e
   unfold Blk at h1
   rw [h1] at hm1
   cases hm1
 ·try dsimp only at hg ⊢
  by_cases e : i = c
  ·subst e
   rw [if_pos rfl] at hg
   rw [if_neg (fun e => hij e.symm)]
   rcases hst.2 with h2 | h2
   ·rw [h2] at hg
    exact h.vne i j hi hj hij g hg
   ·intro e
    have := h2 g hg
    obtain ⟨C1,h1⟩ := h.v_blk hj e
    have := h1.lt
    omega
  ·rw [if_neg e] at hg
   by_cases e2 : j = c
   ·subst e2
    rw [if_pos rfl]
    rcases hst.2 with h2 | h2
    ·rw [h2]
     exact h.vne i j hi hj hij g hg
    ·intro e3
     have := h2 g e3
     obtain ⟨C1,h1⟩ := h.v_blk hi hg
     have := h1.lt
     omega
   ·rw [if_neg e2]
    exact h.vne i j hi hj hij g hg
 ·try dsimp only
  refine ⟨(h.base.2.2 i hi).1,fun g hg => ?_⟩
  by_cases e : i = c
  ·subst e
   rw [if_pos rfl] at hg
   rcases hst.2 with h2 | h2
   ·rw [h2] at hg
    exact (h.base.2.2 i hi).2 g hg
   ·have := h2 g hg
    omega
  ·rw [if_neg e] at hg
   exact (h.base.2.2 i hi).2 g hg
theorem SlS.head (h : SlS B W sb hb mb N sl f v l m n) (hk : Keeps (fun i => i = hb) W W') (hh : HdB W' hb sl) : SlS B W' sb hb mb N sl f v l m n /\ KpT B W W' := by
 obtain ⟨CH,hH,_⟩ := h.hd
 obtain ⟨D,es,clock,hm1,hm2⟩ := h.map
 refine ⟨⟨h.slab.kept hk (blk_ne h.slab hH (by decide)),hh,fun c hc => ⟨(h.set c hc).1.kept hk (fun e => ?_) (fun g hg e => ?_),(h.set c hc).2⟩,⟨D,own_mapK ⟨es,clock,hm1,hm2⟩ hk (fun e => ?_)⟩,h.fne,h.vne,h.base⟩,hk.mono (fun i hi e => ?_)⟩
 ·obtain ⟨C,h1⟩ := h.f_blk hc
  exact blk_ne h1 hH (by decide) e
 ·obtain ⟨C,h1⟩ := h.v_blk hc hg
  exact blk_ne h1 hH (by decide) e
 ·unfold Blk at hH
  rw [e,hH] at hm1
  cases hm1
 ·subst e
  exact ⟨h.base.1,.inl ⟨CH,_,hH,.inl rfl⟩⟩
theorem SlS.mapped {D' : DataW Unit} {m' : Nat} (h : SlS B W sb hb mb N sl f v l m n) (hk : Keeps (fun i => some mb = some i) W W') (hD : W'.ownsMap Tryz.prog 39 (plainElem Tryz.prog 3) mb m' D') : SlS B W' sb hb mb N sl f v l m' n /\ KpT B W W' := by
 obtain ⟨D,es,clock,hm1,hm2⟩ := h.map
 have hX : ∀ {i : Nat} {C : Array Value} {t : TypeId},Blk W i C t -> ¬ some mb = some i := fun {i C t} hb e => by
  unfold Blk at hb
  cases e
  rw [hb] at hm1
  cases hm1
 obtain ⟨CH,hH,_⟩ := h.hd
 refine ⟨⟨h.slab.kept hk (hX h.slab),h.hd.kept hk (hX hH),fun c hc => ⟨(h.set c hc).1.kept hk (fun e => ?_) (fun g hg e => ?_),(h.set c hc).2⟩,⟨D',hD⟩,h.fne,h.vne,h.base⟩,hk.mono (fun i hi e => ?_)⟩
 ·obtain ⟨C,h1⟩ := h.f_blk hc
  exact hX h1 e
 ·obtain ⟨C,h1⟩ := h.v_blk hc hg
  exact hX h1 e
 ·cases e
  exact ⟨h.base.2.1,.inr ⟨es,clock,hm1⟩⟩
end
theorem slC_f (N hb sl : Nat) (f : Nat -> Nat) (mb : Nat) {c : Nat} (hc : c < 4) : (slC N hb sl f mb)[2 + c]? = some (.pointer (some ⟨f c,0,none⟩)) := by
 obtain rfl | rfl | rfl | rfl : c = 0 ∨ c = 1 ∨ c = 2 ∨ c = 3 := by omega
 all_goals rfl
set_option maxRecDepth 1000000 in
set_option maxHeartbeats 4000000 in
theorem give_v (B : Nat) (w : World) (sb hb mb N sl : Nat) (f : Nat -> Nat) (v : Nat -> Value) (l : Nat -> List Int) (m n i c : Nat) (h : SlS B w sb hb mb N sl f v l m n) (hB : B <= w.heap.size) (hi : 1 <= i /\ i <= sl) (hsl : sl <= 16) (hc : c <= 3) (hn : n <= 100000) :
  Calls Tryz.prog 44 #[.pointer (some ⟨sb,0,none⟩),.int .i64 (i : Nat),.int .i64 (c : Nat)] w fun e w' => e = .returned (.tuple #[]) /\ ∃ v' l',SlS B w' sb hb mb N sl f v' l' m (n + 15) /\ KpT B w w' := by
 have HS := Lib.hid h
 obtain ⟨a0,b0,hc1,hc2,hfz⟩ := h.hd.cell (show i < 1 + sl by omega)
 have c1 : w.cell? ⟨sb,1,none⟩ = some (.slice (some ⟨hb,0,none⟩) (1 + sl) (1 + sl)) := (h.slab.cell 1).trans rfl
 have f1 := hfz (i * 2)
 have his : i < 1 + sl := by omega
 have hi16 : (i : Int) <= 16 := by omega
 have hc3 : (c : Int) <= 3 := by omega
 have HI := Lib.hid (And.intro hi (And.intro hsl (And.intro hc (And.intro hn hB))))
 have HBl := Lib.hid (fun W => blocks_k c hc W)
 have hb15 : (blkK c : Int) <= 15 := by have := blkK_le c;omega
 have HBk0 := Lib.hid (fun (j : Int) W => block_k i c j ⟨hi.1,by omega⟩ hc W)
 have hh2 := h.hd.set his (c : Int)
 have HH2 := Lib.hid (h.head ((Keeps.refl (fun i => i = hb) w).setCell (p := ⟨hb,i * 2,none⟩) (.inl rfl) _) hh2)
 obtain ⟨bn,hbn⟩ : ∃ bn,blkK c = bn := ⟨_,rfl⟩
 rw [hbn] at hb15 HBl
 have HBn := Lib.hid hbn
 clear h hc2 hfz hi hsl hc hn hB hh2 hbn
 go_enter Tryz.func44,Tryz.ntmps44
 go_upto_region 2 with (first | (go_at_call 43;refine (HBl.out _).mono ?_;rintro e w2 ⟨rfl,hB2⟩))
 have HB2 := Lib.hid hB2
 have HS2 := Lib.hid (HH2.out.1.below hB2)
 have HK2 := Lib.hid (HH2.out.2.trans (KpT.of_below hB2))
 clear c1 hc1 f1 hB2
 go_loopw [17] (fun iv wr => ∃ (j : Nat) (v' : Nat -> Value) (l' : Nat -> List Int),j <= bn /\ iv = .int .i64 (j : Int) /\ Hid (SlS B wr sb hb mb N sl f v' l' m (n + j)) /\ Hid (KpT B w wr)) (fun iv _ => 100 - (intOf iv).toNat)
 case atStart => exact ⟨0,v,l,Nat.zero_le _,rfl,HS2,HK2⟩
 case round =>
  obtain ⟨j,v',l',hj,rfl,HSj,HKj⟩ := hrel
  by_cases hlt : j < bn
  ·have b1 : (j : Int) < (bn : Int) := by omega
   have HJ := Lib.hid hlt
   have hc4 : c < 4 := by omega
   have HC4 := Lib.hid (show c < 4 /\ (c : Int) < 4 from ⟨hc4,by omega⟩)
   obtain ⟨fc,hfc⟩ : ∃ fc,f c = fc := ⟨_,rfl⟩
   have HSc := Lib.hid (show sb < wr.heap.size /\ wr.cell? ⟨sb,2 + c,none⟩ = some (.pointer (some ⟨fc,0,none⟩)) from ⟨HSj.out.slab.lt,(HSj.out.slab.cell (2 + c)).trans (by rw [slC_f N hb sl f mb hc4,hfc])⟩)
   obtain ⟨bj,hbj⟩ : ∃ bj,blockK i c (j : Int) = bj := ⟨_,rfl⟩
   have hbj0 : bj ≠ 0 := by
    rw [<- hbj]
    unfold blockK
    have h1 := HBn.out
    rw [if_pos (by omega)]
    have h3 : 0 <= (j : Int) * (64 * (c : Int)) := Int.mul_nonneg (by omega) (by omega)
    omega
   have HBk := Lib.hid (fun W => HBk0.out (j : Int) W)
   rw [hbj] at HBk
   obtain ⟨PoW,hPo⟩ : ∃ P : World -> Prop,P = fun W' => ∃ v' l',SlS B W' sb hb mb N sl f v' l' m (n + (j + 1)) /\ KpT B w W' := ⟨_,rfl⟩
   have HPo := Lib.hid hPo
   have HPt := Lib.hid (show ∀ W,Below wr.heap.size wr W -> Calls Tryz.prog 62 #[.pointer (some ⟨fc,0,none⟩),.int .u64 bj] W fun e w' => e = .returned (.int .i64 0) /\ PoW w' from fun W hBW => by
    have hS := HSj.out.below hBW
    have hs := hS.set c hc4
    rw [<- hfc]
    refine (put_v (f c) (v' c) (l' c) bj W hs.1 (by have := hs.2;have := HI.out;omega) hbj0).mono ?_
    rintro e w' ⟨rfl,vn,ln,hsv,hpm,hst⟩
    have hln : ln.length <= n + j + 1 := by
     rw [hpm.length_eq]
     have := hs.2
     split
     ·omega
     ·rw [List.length_cons];omega
    have hz := hS.step hc4 (by have := HI.out;have := HKj.out.size;have := hBW.size;omega) hsv hst hln
    rw [hPo]
    exact ⟨rfl,_,_,hz.1,HKj.out.trans ((KpT.of_below hBW).trans hz.2)⟩)
   clear hfc hbj hbj0 hPo
   go_upto_region 4 with (fail)
   refine wp_region_vals [Is (.pointer (some ⟨sb,0,none⟩)),Is (.int .i64 (c : Nat)),Is (.pointer (some ⟨sb,0,none⟩)),Is (.pointer (some ⟨sb,2,none⟩)),Is (.pointer (some ⟨sb,2 + c,none⟩)),Is (.pointer (some ⟨fc,0,none⟩)),Is (.int .i64 (i : Nat)),Is (.int .i64 (c : Nat)),Is (.int .i64 (j : Nat)),Is (.int .u64 bj),Is (.int .i64 0)]
    (fun _ _ _ => True) (fun L W => (L 10 = false -> Below wr.heap.size wr W) /\ (L 10 = true -> PoW W)) (by kernel_rfl) (by kernel_rfl) (by kernel_rfl) ?hst ?h0 ⟨?o0,?o1,?o2,?o3,?o4,?o5,?o6,?o7,?o8,?o9,?o10,trivial⟩ ?he
   any_goals (intro L vs A W H hf hd K hK)
   case hst => repeat' (first | exact trivial | refine ⟨fun _ _ _ _ _ _ h _ => h,?_⟩)
   case h0 =>
    exact ⟨fun _ => (Below.refl _ wr).drew,fun h => by cases h⟩
   case o0 => have e0 : A.tmps[0]?.getD undef = .pointer (some ⟨sb,0,none⟩) := H.old 0 (by kernel_rfl);go_simp;exact hK _ _ (trivial) rfl (H.glob)
   case o1 => have e2 : A.tmps[2]?.getD undef = .int .i64 (c : Nat) := H.old 2 (by kernel_rfl);go_simp;exact hK _ _ (trivial) rfl (H.glob)
   case o2 => have e20 := H.iz hd 0 20 rfl rfl rfl (by kernel_rfl);go_simp;exact hK _ _ (trivial) rfl (H.glob)
   case o3 => have e22 := H.iz hd 2 22 rfl rfl rfl (by kernel_rfl);go_simp;exact hK _ _ (trivial) rfl (H.glob)
   case o4 => have e23 := H.iz hd 3 23 rfl rfl rfl (by kernel_rfl);have e21 := H.iz hd 1 21 rfl rfl rfl (by kernel_rfl);have hc4 := HC4.out;go_simp;exact hK _ _ (trivial) rfl (H.glob)
   case o5 => have e24 := H.iz hd 4 24 rfl rfl rfl (by kernel_rfl);have n10 := H.notYet 10 5 rfl hf (by kernel_rfl);have hB := H.glob.1 n10;have d0 : W.cell? ⟨sb,2 + c,none⟩ = some (.pointer (some ⟨fc,0,none⟩)) := (hB.cell (p := ⟨sb,2 + c,none⟩) HSc.out.1).trans HSc.out.2;go_simp;exact hK _ _ (trivial) rfl (H.glob)
   case o6 => have e1 : A.tmps[1]?.getD undef = .int .i64 (i : Nat) := H.old 1 (by kernel_rfl);go_simp;exact hK _ _ (trivial) rfl (H.glob)
   case o7 => have e2 : A.tmps[2]?.getD undef = .int .i64 (c : Nat) := H.old 2 (by kernel_rfl);go_simp;exact hK _ _ (trivial) rfl (H.glob)
   case o8 => have e6 : A.tmps[6]?.getD undef = .int .i64 (j : Nat) := H.old 6 (by kernel_rfl);go_simp;exact hK _ _ (trivial) rfl (H.glob)
   case o9 => have e26 := H.iz hd 6 26 rfl rfl rfl (by kernel_rfl);have e27 := H.iz hd 7 27 rfl rfl rfl (by kernel_rfl);have e28 := H.iz hd 8 28 rfl rfl rfl (by kernel_rfl);have n10 := H.notYet 10 9 rfl hf (by kernel_rfl);have HB := Lib.hid (H.glob.1 n10);have HL := Lib.hid (HBk.out W);go_simp;refine HL.out.mono ?_;rintro e w' ⟨rfl,hB⟩;go_simp;exact hK _ _ trivial rfl ⟨fun _ => HB.out.trans (hB.mono HB.out.size),fun h => by rw [show lset L 9 10 = L 10 from rfl,n10] at h;cases h⟩
   case o10 => have e25 := H.iz hd 5 25 rfl rfl rfl (by kernel_rfl);have e29 := H.iz hd 9 29 rfl rfl rfl (by kernel_rfl);have HB := Lib.hid (H.glob.1 hf);have HL := Lib.hid (HPt.out W HB.out);go_simp;refine HL.out.mono ?_;rintro e w' ⟨rfl,hP⟩;go_simp;exact hK _ _ trivial rfl ⟨fun h => by simp [lset] at h,fun _ => hP⟩
   case he =>
    intro vs W hlen hv
    match vs,hlen,hv with
    | [x0_,x1_,x2_,x3_,x4_,x5_,x6_,x7_,x8_,x9_,x10_],_,hv =>
    obtain rfl := isv hv 0 rfl rfl;obtain rfl := isv hv 1 rfl rfl;obtain rfl := isv hv 2 rfl rfl;obtain rfl := isv hv 3 rfl rfl;obtain rfl := isv hv 4 rfl rfl;obtain rfl := isv hv 5 rfl rfl;obtain rfl := isv hv 6 rfl rfl;obtain rfl := isv hv 7 rfl rfl;obtain rfl := isv hv 8 rfl rfl;obtain rfl := isv hv 9 rfl rfl;obtain rfl := isv hv 10 rfl rfl
    intro L hall hG
    clear hv hlen
    have HG := Lib.hid (hG.2 (hall 10 (by decide)))
    clear hG hall
    simp only [fill,if_true]
    have HG2 := Lib.hid (show ∃ v' l',SlS B W sb hb mb N sl f v' l' m (n + (j + 1)) /\ KpT B w W from by have := HG.out;rw [HPo.out] at this;exact this)
    obtain ⟨v2,l2,hS2,hK2⟩ := HG2.out
    have HS3 := Lib.hid hS2
    have HK3 := Lib.hid hK2
    clear hS2 hK2 HG HG2
    simp [Act.put]
    go_wp2_with (fail)
    go_roundw
    case rel => exact ⟨j + 1,v2,l2,HJ.out,by go_num,HS3,HK3⟩
    case measure => have := HJ.out;simp [intOf];omega
  ·have b1 : ¬ (j : Int) < (bn : Int) := by omega
   go_wp2_with (fail)
   go_end0
   exact ⟨rfl,⟨v',l',HSj.out.mono (Nat.le_refl _) (by omega)⟩,HKj.out⟩
end Go.Proofs.YtodgfbjjjgohgaaGreat
