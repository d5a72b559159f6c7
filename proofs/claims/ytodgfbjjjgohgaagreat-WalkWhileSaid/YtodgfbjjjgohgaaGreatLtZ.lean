/-
 pmem.Mem.last: a contract.
-/
import Derived.Test.YtodgfbjjjgohgaaGreatSpZ
import Derived.Deep.Cut
namespace Go.Proofs.YtodgfbjjjgohgaaGreat
open Go.RowKit Go.Maps
set_option linter.unusedVariables false

def lastIm (is : List Int) (l : List (Int × Int)) : List Int := l.foldl (fun is p => is.set (p.1 / 8).toNat p.2) is
theorem lastIm_len (l : List (Int × Int)) : ∀ is,(lastIm is l).length = is.length := by
 induction l with
 | nil => intro is;rfl
 | cons p r ih => intro is;show (lastIm (is.set _ _) r).length = _;rw [ih,List.length_set]
theorem lastIm_succ (is : List Int) (l : List (Int × Int)) (k : Nat) (h : k < l.length) : lastIm is (l.take (k + 1)) = (lastIm is (l.take k)).set (l[k].1 / 8).toNat l[k].2 := by
 rw [List.take_succ_eq_append_getElem h]
 unfold lastIm
 rw [List.foldl_append]
 rfl
theorem wpList_alloc_ln {ops : Array Oper} {rest : List Oper} {o : Oper} {a : Act} {w : World} {Q : Exit -> Act -> World -> Prop} (hgd : o.guard = none) (ho : o.op = .alloc 95)
  (h : wpList Tryz.prog ops Q rest (a.put o.dst (.pointer (some ⟨w.heap.size,0,none⟩))) (w.alloc (.cells (lnCells (.slice none 0 0) (fun _ => 0)) 95))) : wpList Tryz.prog ops Q (o :: rest) a w :=
 wpList_plain hgd fun _ hK => wp_alloc_ln ho (hK _ _ h)
theorem wpList_store_ln {ops : Array Oper} {rest : List Oper} {o : Oper} {a : Act} {w : World} {Q : Exit -> Act -> World -> Prop} (hgd : o.guard = none) (x y : Operand) (ho : o.op = .store 95 x y)
  (g : Nat) (s s' : Value) (f f' : Nat -> Int) (hs : s.oneCell' = true) (hx : a.eval x = .pointer (some ⟨g,0,none⟩)) (hy : a.eval y = .agg (lnCells s f)) (hg : Blk w g (lnCells s' f') 95)
  (h : wpList Tryz.prog ops Q rest (a.put o.dst undef) (w.setRow g (lnCells s f))) : wpList Tryz.prog ops Q (o :: rest) a w :=
 wpList_plain hgd fun _ hK => wp_store_ln x y ho g s s' f f' hs hx hy hg (hK _ _ h)
theorem ecells_at : ∀ (l : List (Int × Int)) (i : Nat) (h : i < l.length),(ecells l)[i * 2]? = some (.int .u64 l[i].1) /\ (ecells l)[i * 2 + 1]? = some (.int .u64 l[i].2)
 | e :: r,0,_ => ⟨rfl,rfl⟩
 | e :: r,i + 1,h => by
  have := ecells_at r i (by simpa using h)
  have e1 : ecells (e :: r) = Value.int .u64 e.1 :: Value.int .u64 e.2 :: ecells r := rfl
  rw [e1,show (i + 1) * 2 = i * 2 + 1 + 1 by omega]
  exact this
def StQ (W6 : World) (gi q : Nat) (wd : Int) (n : Nat) (L : Nat -> Bool) (W : World) : Prop := (L n = false -> W = W6.drew) /\ (L n = true -> W = W6.drew.setCell ⟨gi,q,none⟩ (.int .u64 wd))
def mkM (f : Nat -> Int) (m : Int) (c : Nat) : Nat -> Int := fun i => if i < c then max (f i - m) 0 else f i
theorem lnCells_congr (X : Value) {f g : Nat -> Int} (h : ∀ i,i < 65 -> f i = g i) : lnCells X f = lnCells X g := by
 unfold lnCells mkList
 congr 2
 exact List.map_congr_left (fun i hi => by rw [h i (List.mem_range.1 hi)])
theorem lnCells_at (X : Value) (f : Nat -> Int) (c : Nat) (h : c < 65) : (lnCells X f)[1 + c]? = some (.int .i64 (f c)) := by
 unfold lnCells mkList
 rw [Nat.add_comm]
 simp [h]
theorem lnCells_setM (X : Value) (f : Nat -> Int) (m : Int) (c : Nat) (h : c < 65) : (lnCells X (mkM f m c)).setIfInBounds (1 + c) (.int .i64 (max (f c - m) 0)) = lnCells X (mkM f m (c + 1)) := by
 apply Array.ext_getElem?
 intro i
 rw [Array.getElem?_setIfInBounds,lnCells_size]
 by_cases e : 1 + c = i
 ·subst e
  rw [if_pos rfl,if_pos (by omega),lnCells_at _ _ _ h]
  unfold mkM;rw [if_pos (by omega)]
 ·rw [if_neg e]
  match i with
  | 0 => rw [lnCells_0,lnCells_0]
  | i + 1 =>
   rw [Nat.add_comm i 1]
   by_cases hi : i < 65
   ·rw [lnCells_at _ _ _ hi,lnCells_at _ _ _ hi]
    unfold mkM
    by_cases h1 : i < c
    ·rw [if_pos h1,if_pos (by omega)]
    ·rw [if_neg h1,if_neg (by omega)]
   ·rw [Array.getElem?_eq_none (by rw [lnCells_size];omega),Array.getElem?_eq_none (by rw [lnCells_size];omega)]
structure LsI (w2 : World) (mb : Nat) (vs is : List Int) (vv vi : Value) (ml : Nat) (lo st fl fe : Int) (l : List (Int × Int)) (j : Nat) (wq : World) : Prop where
 m : MemB wq mb vs (lastIm is (l.take j)) vv vi ml lo st fl fe
 kp : Keeps (fun i => vi.ownBlock = some i ∨ w2.heap.size <= i) w2 wq
def StU (W7 : World) (ml n : Nat) (D' : DataW Value) (i : Nat) (L : Nat -> Bool) (W : World) : Prop := (L i = false -> W = W7.drew) /\ (L i = true -> OwnL W ml (n + 1) D' /\ W7.drew.grownBy W (some ml))
theorem last_done {w w' : World} {N0 mb : Nat} {vs is is' : List Int} {vv vi : Value} {ml n : Nat} {D D' : DataW Value} {sl : Int -> Value} {mk : Int -> Nat -> Int} {F : Int -> List (Int × Int)} {lo st fl fe : Int} {at_ : Int} {s' : Value} {f' : Nat -> Int} {l' : List (Int × Int)}
  (h : MemC w N0 mb vs is vv vi ml n D sl mk F lo st fl fe) (hm : MemB w' mb vs is' vv vi ml lo st fl fe) (ho : OwnL w' ml (n + 1) D') (h1 : hasL D' at_ (.agg (lnCells s' f'))) (h2 : ∀ a z,a ≠ at_ -> D'.atKey (.int .u64 a) z = D.atKey (.int .u64 a) z)
  (hk : Keeps (fun i => i = ml ∨ vi.ownBlock = some i ∨ w.heap.size <= i) w w') (hr : RowC w' N0 s' l') (hs : ∀ i,s'.ownBlock = some i -> (sl at_).ownBlock = some i) :
  MemC w' N0 mb vs is' vv vi ml (n + 1) D' (updV sl at_ s') (fun a => if a = at_ then f' else mk a) (updF F at_ l') lo st fl fe := by
 refine ⟨hm,ho,fun a => ?_,fun a => ?_,fun a b i hne ha => ?_,h.lt,h.x,h.xv⟩
 ·unfold updV
  by_cases e : a = at_
  ·subst e;simp only [if_true];exact h1
  ·simp only [if_neg e]
   unfold hasL
   rw [h2 a _ e]
   exact h.e a
 ·unfold updV updF
  by_cases e : a = at_
  ·simp only [if_pos e];exact hr
  ·simp only [if_neg e]
   refine (h.r a).keeps hk (fun i hi => ?_)
   have b1 := (h.r a).base i hi
   have b2 := (h.r a).lt hi
   rintro (x | x | x)
   ·have := h.lt i (.inr (.inl x));omega
   ·have := h.lt i (.inr (.inr (.inr x)));omega
   ·omega
 ·unfold updV at ha ⊢
  by_cases e : a = at_
  ·rw [if_pos e] at ha
   rw [if_neg (fun e2 => hne (e.trans e2.symm))]
   exact h.d at_ b i (fun e2 => hne (e.trans e2)) (hs i ha)
  ·rw [if_neg e] at ha
   by_cases e2 : b = at_
   ·rw [if_pos e2]
    intro h3
    exact h.d a at_ i e ha (hs i h3)
   ·rw [if_neg e2]
    exact h.d a b i hne ha
def LastK (w : World) (N0 mb : Nat) (vs is : List Int) (vv vi : Value) (ml n : Nat) (D : DataW Value) (sl : Int -> Value) (mk : Int -> Nat -> Int) (F : Int -> List (Int × Int)) (lo st fl fe : Int) (at_ k : Int) (e : Ending) (w' : World) : Prop :=
 e = .returned (.int .i64 (min k ((F at_).length : Int))) ∧
   ∃ s' f' D',MemC w' N0 mb vs (lastIm is ((F at_).take k.toNat)) vv vi ml (n + 1) D' (updV sl at_ s') (fun a => if a = at_ then f' else mk a) (updF F at_ ((F at_).drop k.toNat)) lo st fl fe ∧
    (∀ c,f' c = if (F at_).drop k.toNat = [] then 0 else max (mk at_ c - min k ((F at_).length : Int)) 0) /\ Keeps (fun i => i = ml ∨ vi.ownBlock = some i ∨ w.heap.size <= i) w w' ∧
    (∀ i,s'.ownBlock = some i -> (sl at_).ownBlock = some i) /\ (∀ b,Maps.has D' (.int .u64 b) = if b = at_ then decide (¬ (F at_).drop k.toNat = []) else Maps.has D (.int .u64 b))
set_option maxRecDepth 100000 in
set_option maxHeartbeats 40000000 in
theorem mlast_k (w : World) (N0 mb : Nat) (vs is : List Int) (vv vi : Value) (ml n : Nat) (D : DataW Value) (sl : Int -> Value) (mk : Int -> Nat -> Int) (F : Int -> List (Int × Int)) (lo st fl fe : Int)
  (h : MemC w N0 mb vs is vv vi ml n D sl mk F lo st fl fe) (hN0 : N0 <= w.heap.size) (hni : is.length <= 1000000) (at_ : Int) (h0 : 0 <= at_) (h1 : at_ <= 18446744073709551615) (k : Int) (hk0 : 0 <= k) (hk1 : k <= 9223372036854775807)
  (hn : n <= 1000000) (hF : (F at_).length <= 1000000) (hmk : ∀ c,0 <= mk at_ c /\ mk at_ c <= 1000000) (hok : ∀ p ∈ F at_,0 <= p.1 /\ p.1 / 8 < (is.length : Int)) :
  Calls Tryz.prog 130 #[.pointer (some ⟨mb,0,none⟩),.int .u64 at_,.int .i64 k] w (LastK w N0 mb vs is vv vi ml n D sl mk F lo st fl fe at_ k) := by
 obtain ⟨s0,hs0e⟩ : ∃ s0,sl at_ = s0 := ⟨_,rfl⟩
 obtain ⟨f0,hf0⟩ : ∃ f0,mk at_ = f0 := ⟨_,rfl⟩
 have hE : hasL D at_ (.agg (lnCells s0 f0)) := by rw [<- hs0e,<- hf0];exact h.e at_
 have hR : RowC w N0 s0 (F at_) := by rw [<- hs0e];exact h.r at_
 have c2 : w.cell? ⟨mb,2,none⟩ = some (.map (some ml)) := h.m.c 2
 have hl : (Instr.lookup 90 (.map (some ml)) (.int .u64 at_) false).run Tryz.prog w = .ok (.agg (lnCells s0 f0)) w := own_look h.o at_ h0 h1 hE
 have Hs1 := Lib.hid hR.one
 have HH := Lib.hid h
 have HR := Lib.hid hR
 have HE := Lib.hid hE
 have KX : Keeps NoB w ((w.alloc (.cells (lnCells (.slice none 0 0) (fun _ => 0)) 95)).setRow w.heap.size (lnCells s0 f0)) := keeps_setRow ((Keeps.refl NoB w).alloc _) (.inr (Nat.le_refl _)) _
 have BX : Blk ((w.alloc (.cells (lnCells (.slice none 0 0) (fun _ => 0)) 95)).setRow w.heap.size (lnCells s0 f0)) w.heap.size (lnCells s0 f0) 95 := (Blk.new w _ _).row _
 have HKX := Lib.hid KX
 have HBX := Lib.hid BX
 have HOk := Lib.hid hok
 have HMk := Lib.hid hmk
 have HFm := Lib.hid hR.form
 have HS0 := Lib.hid hs0e
 have HF0 := Lib.hid hf0
 clear h hR hE KX BX hok hmk hs0e hf0
 go_enter Tryz.func130,Tryz.ntmps130
 go_upto_region 2 with (first | (refine wpList_alloc_ln rfl rfl ?_) | (refine wpList_store_ln rfl _ _ rfl w.heap.size s0 _ f0 _ Hs1.out rfl rfl (Blk.new w _ _) ?_))
 obtain ⟨lb,hlb⟩ : ∃ lb,w.heap.size = lb := ⟨_,rfl⟩
 rw [hlb] at HKX HBX ⊢
 generalize (w.alloc (.cells (lnCells (.slice none 0 0) (fun _ => 0)) 95)).setRow lb (lnCells s0 f0) = w2 at *
 obtain ⟨A,C,hform,hlc,hlm⟩ := HFm.out
 subst hform
 have d0 : w2.cell? ⟨lb,0,none⟩ = some (.slice A (F at_).length C) := by rw [HBX.out.cell];exact lnCells_0 _ _
 obtain ⟨l,hl9⟩ : ∃ l,F at_ = l := ⟨_,rfl⟩
 rw [hl9] at d0 hlc hlm HR HBX HOk hF HE HS0
 obtain ⟨m,hm⟩ : ∃ m : Nat,min k (l.length : Int) = (m : Int) := ⟨(min k (l.length : Int)).toNat,by omega⟩
 have hml : m <= l.length := by omega
 have hmc : (m : Int) <= (C : Int) := by omega
 have hmin1 : (if k <= (l.length : Int) then k else (l.length : Int)) = (m : Int) := by split <;> omega
 have hmin2 : (if (l.length : Int) < k then (l.length : Int) else k) = (m : Int) := by split <;> omega
 go_wp2_with (fail)
 have HM2 := Lib.hid (HH.out.m.kept HKX.out (fun _ _ h => h))
 have HR2 := Lib.hid (HR.out.keeps HKX.out (fun _ _ h => h))
 have HLi := Lib.hid (show LsI w2 mb vs is vv vi ml lo st fl fe l 0 w2 from ⟨HM2.out,Keeps.refl _ _⟩)
 have HLb := Lib.hid hlb
 have hsz2 : lb < w2.heap.size := HBX.out.lt
 have HVi := Lib.hid (show ∀ i,vi.ownBlock = some i -> i < N0 /\ i < lb from fun i hi => ⟨HH.out.lt i (.inr (.inr (.inr hi))),by have := HH.out.lt i (.inr (.inr (.inr hi)));rw [<- hlb];omega⟩)
 have HMl := Lib.hid hml
 have HMin := Lib.hid hm
 have HTk := Lib.hid (show l.take k.toNat = l.take m /\ l.drop k.toNat = l.drop m from by
  by_cases hkl : k <= (l.length : Int)
  ·have : k.toNat = m := by omega
   rw [this];exact ⟨rfl,rfl⟩
  ·have : m = l.length := by omega
   rw [this,List.take_of_length_le (by omega),List.take_of_length_le (Nat.le_refl _),List.drop_of_length_le (by omega),List.drop_of_length_le (Nat.le_refl _)];exact ⟨rfl,rfl⟩)
 clear hmin1 hmin2 d0 hl hlb hm hml
 go_loopw [27] (fun jv wq => ∃ j : Nat,j <= m /\ jv = .int .i64 j /\ LsI w2 mb vs is vv vi ml lo st fl fe l j wq) (fun jv _ => m - (intOf jv).toNat)
 case atStart => exact ⟨0,by omega,rfl,HLi.out⟩
 case round =>
  obtain ⟨j,hj,rfl,hI⟩ := hrel
  have HI := Lib.hid hI
  by_cases hlt : j < m
  ·have hjl : j < l.length := by have := HMl.out;omega
   have hjb : (j : Int) < (m : Int) := by omega
   have HJ := Lib.hid hlt
   have hrow : RowC wr N0 (.slice A l.length C) l := HR2.out.keeps hI.kp (fun i hi h => by
    have h1 := HR.out.lt hi
    have h2 := HR.out.base i hi
    rcases h with h | h
    ·have := (HVi.out i h).1;omega
    ·have := HLb.out;omega)
   obtain ⟨g,o,c9,hsl,_,_,hgl,cs,hcs,hget⟩ := hrow.cells (by omega)
   obtain ⟨rfl,rfl⟩ : A = some ⟨g,o,none⟩ /\ C = c9 := ⟨(Value.slice.inj hsl).1,(Value.slice.inj hsl).2.2⟩
   obtain ⟨e1,e2⟩ := ecells_at l j hjl
   have c1 := cell_cells hcs (hget _ _ e1)
   have c2' := cell_cells hcs (hget _ _ e2)
   rw [<- Nat.add_assoc] at c2'
   obtain ⟨ad,had⟩ : ∃ ad,l[j].1 = ad := ⟨_,rfl⟩
   obtain ⟨wd,hwd⟩ : ∃ wd,l[j].2 = wd := ⟨_,rfl⟩
   rw [had] at c1
   rw [hwd] at c2'
   have hok := HOk.out l[j] (List.getElem_mem _)
   rw [had] at hok
   obtain ⟨q,hq⟩ : ∃ q : Nat,ad / 8 = (q : Int) := ⟨(ad / 8).toNat,by omega⟩
   have hqn : q < is.length := by omega
   have hlen := lastIm_len (l.take j) is
   have hsucc := lastIm_succ is l j hjl
   rw [had,hwd,hq,Int.toNat_natCast] at hsucc
   obtain ⟨gi,ci,rfl⟩ : ∃ gi ci,vi = .slice (some ⟨gi,0,none⟩) is.length ci := by
    rcases hI.m.i.2 with ⟨_,h0⟩ | ⟨gi,ci,cur,hv,_⟩
    ·rw [hlen] at h0;omega
    ·exact ⟨gi,ci,by rw [hv,hlen]⟩
   have HSu := Lib.hid hsucc
   have HQ := Lib.hid (show IntKind.u64.wrap (ad.tdiv 8) = (q : Int) from by rw [Int.tdiv_eq_ediv_of_nonneg hok.1,hq];exact IntWalk.u64_in _ (by omega))
   have HQn := Lib.hid (show (q : Int) < (is.length : Int) by omega)
   have hgi := (HVi.out gi rfl)
   have hiown := hI.m.i
   rw [hlen] at hiown
   have hiW : ((wr.alloc (.cells #[.int .u64 ad,.int .u64 wd] 56)).drew).ownsRow 0 25 1 (.slice (some ⟨gi,0,none⟩) is.length ci) is.length ((lastIm is (l.take j)).map (Value.int .u64)) := own_keeps hiown ((Keeps.refl NoB wr).alloc _).drew (fun _ _ h => h)
   have hfz := own_frozen hiW q
   have hcq := hiW.cells (g := gi) rfl q (.int .u64 ((lastIm is (l.take j)).getD q 0)) (by rw [List.getElem?_map,List.getD_eq_getElem?_getD,List.getElem?_eq_getElem (by rw [hlen];exact hqn)];rfl)
   rw [show ((⟨gi,0,none⟩ : Addr).add q) = ⟨gi,q,none⟩ by unfold Addr.add;split;(rename_i h;subst h;rfl);simp] at hcq
   have HZ := Lib.hid (And.intro hfz hcq)
   have hB6 : Below wr.heap.size wr (wr.alloc (.cells #[.int .u64 ad,.int .u64 wd] 56)).drew := ((Below.refl _ _).alloc (Nat.le_refl _) _).drew
   have hM6 := hI.m.below hB6
   have hnew := Blk.new wr #[.int .u64 ad,.int .u64 wd] 56
   have hnext : LsI w2 mb vs is vv (.slice (some ⟨gi,0,none⟩) is.length ci) ml lo st fl fe l (j + 1) (((wr.alloc (.cells #[.int .u64 ad,.int .u64 wd] 56)).drew).setCell ⟨gi,q,none⟩ (.int .u64 wd)) := by
    refine ⟨⟨hM6.blk.other q _ (fun e => by have := hM6.ne.2;exact this (by rw [e];rfl)),ownsRow_setCell_other hM6.v (a := ⟨gi,q,none⟩) (fun e => HH.out.xv gi e rfl) _,?_⟩,(hI.kp.trans ((Keeps.refl (fun i => (Value.slice (some ⟨gi,0,none⟩) is.length ci).ownBlock = some i ∨ w2.heap.size <= i) wr).alloc _).drew).setCell (p := ⟨gi,q,none⟩) (.inl (.inl rfl)) _⟩
    rw [HSu.out,List.length_set,List.map_set,hlen]
    exact own_set hiW q (.int .u64 wd)
   have HNx := Lib.hid hnext
   obtain ⟨W6,hW6⟩ : ∃ y,wr.alloc (.cells #[.int .u64 ad,.int .u64 wd] 56) = y := ⟨_,rfl⟩
   obtain ⟨pb,hpb⟩ : ∃ pb,wr.heap.size = pb := ⟨_,rfl⟩
   rw [hpb] at hnew
   have HC6 := Lib.hid (show W6.drew.cell? ⟨mb,1,none⟩ = some (.slice (some ⟨gi,0,none⟩) is.length ci) /\ W6.drew.cell? ⟨pb,0,none⟩ = some (.int .u64 ad) /\ W6.drew.cell? ⟨pb,1,none⟩ = some (.int .u64 wd) from ⟨by rw [<- hW6];exact hM6.c 1,by rw [<- hW6];exact hnew.drew.cell 0,by rw [<- hW6];exact hnew.drew.cell 1⟩)
   rw [hW6] at HNx HZ
   clear hI hrow hcs hget e1 e2 hok hq hlen hsucc hiown hiW hfz hcq hB6 hM6 hnew hnext had hwd hlt hsl
   go_wp2_with (fail)
   clear hW6 hpb
   refine wp_region_vals [Is (.pointer (some ⟨mb,0,none⟩)),Is (.pointer (some ⟨mb,0,none⟩)),Is (.pointer (some ⟨mb,1,none⟩)),Is (.slice (some ⟨gi,0,none⟩) is.length ci),Is (.pointer (some ⟨pb,0,none⟩)),Is (.int .u64 ad),Is (.int .u64 (q : Int)),Is (.pointer (some ⟨pb,1,none⟩)),Is (.int .u64 wd),Is (.pointer (some ⟨gi,q,none⟩)),Any]
    (fun _ _ _ => True) (fun L W => StQ W6 gi q wd 10 L W) (by kernel_rfl) (by kernel_rfl) (by kernel_rfl) ?hst ?h0 ⟨?o0,?o1,?o2,?o3,?o4,?o5,?o6,?o7,?o8,?o9,?o10,trivial⟩ ?he
   any_goals (intro L vs A W H hf hd K hK)
   case hst => repeat' (first | exact trivial | refine ⟨fun _ _ _ _ _ _ h _ => h,?_⟩)
   case h0 =>
    exact ⟨fun _ => rfl,fun e => by cases e⟩
   case o0 => have e0 : A.tmps[0]?.getD undef = .pointer (some ⟨mb,0,none⟩) := H.old 0 (by kernel_rfl);go_simp;exact hK _ _ (trivial) rfl (H.glob)
   case o1 => have e31 := H.iz hd 0 31 rfl rfl rfl (by kernel_rfl);go_simp;exact hK _ _ (trivial) rfl (H.glob)
   case o2 => have e32 := H.iz hd 1 32 rfl rfl rfl (by kernel_rfl);go_simp;exact hK _ _ (trivial) rfl (H.glob)
   case o3 => have e33 := H.iz hd 2 33 rfl rfl rfl (by kernel_rfl);have n10 := H.notYet 10 3 rfl hf (by kernel_rfl);have d : W.cell? ⟨mb,1,none⟩ = some (.slice (some ⟨gi,0,none⟩) is.length ci) := (by rw [H.glob.1 n10];exact HC6.out.1);go_simp;exact hK _ _ (trivial) rfl (H.glob)
   case o4 => have e9 : A.tmps[9]?.getD undef = .pointer (some ⟨pb,0,none⟩) := H.old 9 (by kernel_rfl);go_simp;exact hK _ _ (trivial) rfl (H.glob)
   case o5 => have e35 := H.iz hd 4 35 rfl rfl rfl (by kernel_rfl);have n10 := H.notYet 10 5 rfl hf (by kernel_rfl);have d : W.cell? ⟨pb,0,none⟩ = some (.int .u64 ad) := (by rw [H.glob.1 n10];exact HC6.out.2.1);go_simp;exact hK _ _ (trivial) rfl (H.glob)
   case o6 => have e36 := H.iz hd 5 36 rfl rfl rfl (by kernel_rfl);have hq := HQ.out;go_simp;exact hK _ _ (trivial) rfl (H.glob)
   case o7 => have e9 : A.tmps[9]?.getD undef = .pointer (some ⟨pb,0,none⟩) := H.old 9 (by kernel_rfl);go_simp;exact hK _ _ (trivial) rfl (H.glob)
   case o8 => have e38 := H.iz hd 7 38 rfl rfl rfl (by kernel_rfl);have n10 := H.notYet 10 8 rfl hf (by kernel_rfl);have d : W.cell? ⟨pb,1,none⟩ = some (.int .u64 wd) := (by rw [H.glob.1 n10];exact HC6.out.2.2);go_simp;exact hK _ _ (trivial) rfl (H.glob)
   case o9 => have e34 := H.iz hd 3 34 rfl rfl rfl (by kernel_rfl);have e37 := H.iz hd 6 37 rfl rfl rfl (by kernel_rfl);have hqn := HQn.out;go_simp;exact hK _ _ (trivial) rfl (H.glob)
   case o10 => have e40 := H.iz hd 9 40 rfl rfl rfl (by kernel_rfl);have e39 := H.iz hd 8 39 rfl rfl rfl (by kernel_rfl);have hW := H.glob.1 hf;subst hW;have hfz := HZ.out.1;have hsm := HZ.out.2;go_simp;exact hK undef _ trivial trivial ⟨fun e => (by cases e),fun _ => rfl⟩
   case he =>
    intro vs W hlen hv
    match vs,hlen,hv with
    | [x0_,x1_,x2_,x3_,x4_,x5_,x6_,x7_,x8_,x9_,x10_],_,hv =>
    obtain rfl := isv hv 0 rfl rfl;obtain rfl := isv hv 1 rfl rfl;obtain rfl := isv hv 2 rfl rfl;obtain rfl := isv hv 3 rfl rfl;obtain rfl := isv hv 4 rfl rfl;obtain rfl := isv hv 5 rfl rfl;obtain rfl := isv hv 6 rfl rfl;obtain rfl := isv hv 7 rfl rfl;obtain rfl := isv hv 8 rfl rfl;obtain rfl := isv hv 9 rfl rfl
    intro L hall hG
    clear hv hlen
    have HW := hG.2 (hall 10 (by decide))
    clear hG hall
    subst HW
    simp only [fill,if_true]
    simp [Act.put]
    go_wp2_with (fail)
    go_roundw
    case rel => exact ⟨j + 1,HJ.out,by go_num,HNx.out⟩
    case measure => have := HJ.out;simp [intOf];omega
  ·obtain rfl : j = m := by omega
   have BL : Blk wr lb (lnCells (.slice A l.length C) f0) 95 := HBX.out.kept hI.kp (by
    rintro (h | h)
    ·have := (HVi.out lb h).2;omega
    ·omega)
   have d0 : wr.cell? ⟨lb,0,none⟩ = some (.slice A l.length C) := by rw [BL.cell];exact lnCells_0 _ _
   have f0' := BL.frozen 0
   have HBL := Lib.hid BL
   have hjl : j <= l.length := HMl.out
   have hjli : (j : Int) <= (l.length : Int) := by omega
   have HI9 := Lib.hid hI
   have hlci : (l.length : Int) <= (C : Int) := by omega
   clear hI BL hlt
   by_cases hfin : l.length = j
   ·obtain rfl : j = l.length := hfin.symm
    clear hfin
    go_wp2_with (fail)
    have hB7 := HBL.out.set 0 (.slice A 0 0)
    rw [lnCells_set0] at hB7
    have HK7 := Lib.hid ((Keeps.refl (fun i => i = lb) wr).setCell (p := ⟨lb,0,none⟩) (.inl rfl) (.slice A 0 0))
    have HB7 := Lib.hid hB7
    generalize wr.setCell ⟨lb,0,none⟩ (.slice A 0 0) = w8 at *
    obtain ⟨w9,hw9⟩ : ∃ y,y = wr := ⟨_,rfl⟩
    subst hw9
    obtain ⟨X,hX⟩ : ∃ X,Value.slice A 0 0 = X := ⟨_,rfl⟩
    rw [hX] at HB7
    have HX := Lib.hid hX
    clear hB7 hX d0 f0'
    have HB8 := Lib.hid (show Blk w8 lb (lnCells X (mkM f0 (l.length : Int) 0)) 95 from by
     rw [lnCells_congr X (f := mkM f0 (l.length : Int) 0) (g := f0) (fun i _ => by unfold mkM;rw [if_neg (by omega)])];exact HB7.out)
    go_loopw [53] (fun jv wq => ∃ c : Nat,c <= 65 /\ jv = .int .i64 c /\ Blk wq lb (lnCells X (mkM f0 (l.length : Int) c)) 95 /\ Keeps (fun i => i = lb) w8 wq) (fun jv _ => 65 - (intOf jv).toNat)
    case atStart => exact ⟨0,by omega,rfl,HB8.out,Keeps.refl _ _⟩
    case round =>
     obtain ⟨c,hc,rfl,hb,hk8⟩ := hrel
     have HBc := Lib.hid hb
     have HKc := Lib.hid hk8
     by_cases hlt : c < 65
     ·have hcb : (c : Int) < 65 := by omega
      have d1 : wr.cell? ⟨lb,1 + c,none⟩ = some (.int .i64 (f0 c)) := by
       rw [hb.cell,lnCells_at _ _ _ hlt]
       unfold mkM;rw [if_neg (by omega)]
      have f1 := hb.frozen (1 + c)
      have hmk := HMk.out c
      rw [HF0.out] at hmk
      have qw : IntKind.i64.wrap (f0 c - (l.length : Int)) = f0 c - (l.length : Int) := IntWalk.i64_in _ (by omega)
      have hset := hb.set (1 + c) (.int .i64 (max (f0 c - (l.length : Int)) 0))
      rw [lnCells_setM _ _ _ _ hlt] at hset
      obtain ⟨mx,hmx⟩ : ∃ mx,max (f0 c - (l.length : Int)) 0 = mx := ⟨_,rfl⟩
      rw [hmx] at hset
      have HSt := Lib.hid hset
      obtain ⟨dd,hdd⟩ : ∃ dd,f0 c - (l.length : Int) = dd := ⟨_,rfl⟩
      rw [hdd] at hmx qw
      have hx1 : (if dd <= 0 then 0 else dd) = mx := by rw [<- hmx];split <;> omega
      have hx2 : (if 0 <= dd then dd else 0) = mx := by rw [<- hmx];split <;> omega
      have hx3 : (if dd < 0 then 0 else dd) = mx := by rw [<- hmx];split <;> omega
      have hx4 : (if 0 < dd then dd else 0) = mx := by rw [<- hmx];split <;> omega
      have HKn := Lib.hid (hk8.setCell (p := ⟨lb,1 + c,none⟩) (.inl rfl) (.int .i64 mx))
      have HLT := Lib.hid hlt
      clear hb hk8 hset hmx hmk hlt
      go_wp2_with (fail)
      go_roundw
      case rel => exact ⟨c + 1,HLT.out,by go_num,HSt.out,HKn.out⟩
      case measure => have := HLT.out;simp [intOf];omega
     ·obtain rfl : c = 65 := by omega
      clear hb hk8 hlt
      have d0 : wr.cell? ⟨lb,0,none⟩ = some X := by rw [HBc.out.cell];exact lnCells_0 _ _
      rw [<- HX.out] at d0
      have kW : Keeps (fun i => vi.ownBlock = some i ∨ w.heap.size <= i) w wr := (HKX.out.mono (fun _ _ h => h.elim)).trans ((HI9.out.kp.mono (fun i _ h => by rcases h with h | h;exact .inl h;exact .inr (Nat.le_trans HKX.out.size h))).trans (((HK7.out).trans HKc.out).mono (fun i _ h => .inr (by rw [h,HLb.out];exact Nat.le_refl _))))
      have hmlN := HH.out.lt ml (.inr (.inl rfl))
      have hlN : N0 <= lb := by rw [<- HLb.out];exact hN0
      have HO9 := Lib.hid (ownL_keeps HH.out.o kW (by rintro (h | h);exact HH.out.x.2.2 h;have := HLb.out;omega))
      have HM9 := Lib.hid (HI9.out.m.kept (HK7.out.trans HKc.out) (fun i hi e => by have := HH.out.lt i (by rcases hi with h | h | h;exact .inl h;exact .inr (.inr (.inl h));exact .inr (.inr (.inr h)));omega))
      have HKW := Lib.hid kW
      have dm : wr.cell? ⟨mb,2,none⟩ = some (.map (some ml)) := HM9.out.c 2
      clear kW
      go_wp2_with (at_delete;refine wpList_delete_own _ rfl _ _ 90 39 rfl 95 kA Tryz.underlying90 _ ml n D rfl HO9.out _ (.int .u64 at_) rfl (keyOf_int_mk Tryz.underlying39 (addr_wf h0 h1)) ?_;intro w10 hown10 hturn10)
      go_ret
      have k10 : Keeps (fun i => i = ml) wr w10 := (Keeps.refl (fun i => i = ml) wr).grown hturn10.grown (fun k e => .inl (Option.some.inj e).symm)
      have hdr : l.drop k.toNat = [] := by rw [HTk.out.2];exact List.drop_of_length_le (Nat.le_refl _)
      unfold LastK
      rw [hl9]
      refine ⟨by rw [HMin.out];rfl,.slice none 0 0,fun _ => 0,D.del (.int .u64 at_),?_,fun c => by rw [if_pos hdr],(HKW.out.mono (fun i _ h => by rcases h with h | h;exact .inr (.inl h);exact .inr (.inr h))).trans (k10.mono (fun i _ h => .inl h)),fun i h => (by cases h),fun b => ?_⟩
      rotate_left 1
      ·by_cases hb : b = at_
       ·rw [if_pos hb,hb,has_del_same,hdr];rfl
       ·rw [if_neg hb,has_del_other (by intro e;cases e;exact hb rfl)]
      rw [hdr,HTk.out.1]
      refine last_done HH.out (HM9.out.kept k10 (fun i hi e => by
       subst e
       rcases hi with h | h | h
       ·exact HH.out.x.1 h
       ·exact HH.out.x.2.1 h
       ·exact HH.out.x.2.2 h)) (hown10.mono (by omega)) (by unfold hasL;rw [atKey_del_same];rfl) (fun a z hne => atKey_del_other (by intro e;cases e;exact hne rfl) z) ((HKW.out.mono (fun i _ h => by rcases h with h | h;exact .inr (.inl h);exact .inr (.inr h))).trans (k10.mono (fun i _ h => .inl h))) (RowC.nil _ _) (fun i h => by cases h)
   ·have hfn : j < l.length := by omega
    have hfni : (j : Int) < (l.length : Int) := by omega
    have hrow : RowC wr N0 (.slice A l.length C) l := HR2.out.keeps HI9.out.kp (fun i hi h => by
     have h1 := HR.out.lt hi
     have h2 := HR.out.base i hi
     rcases h with h | h
     ·have := (HVi.out i h).1;omega
     ·have := HLb.out;omega)
    obtain ⟨g,o,c9,hsl,hlc9,hgN,hgl,cs,hcs,hget⟩ := hrow.cells (by omega)
    obtain ⟨rfl,rfl⟩ : A = some ⟨g,o,none⟩ /\ C = c9 := ⟨(Value.slice.inj hsl).1,(Value.slice.inj hsl).2.2⟩
    have hgw : g < w.heap.size := HR.out.lt rfl
    have HRow := Lib.hid (show RowC wr N0 (.slice (some ⟨g,o + j * 2,none⟩) (l.length - j) (l.length - j)) (l.drop j) from .inr ⟨g,o + j * 2,cs,by rw [List.length_drop],by rw [List.length_drop];omega,hgN,hcs,fun jx u hu => by
     have he : ∀ (l : List (Int × Int)) (j : Nat),ecells (l.drop j) = (ecells l).drop (j * 2) := fun l => by
      induction l with
      | nil => intro j;simp [ecells]
      | cons e r ih =>
       intro j
       cases j with
       | zero => rfl
       | succ j =>
        have e1 : ecells (e :: r) = Value.int .u64 e.1 :: Value.int .u64 e.2 :: ecells r := rfl
        rw [List.drop_succ_cons,ih j,e1,show (j + 1) * 2 = j * 2 + 1 + 1 by omega]
        rfl
     rw [he,List.getElem?_drop] at hu
     rw [Nat.add_assoc]
     exact hget _ u hu⟩)
    clear hrow hcs hget hsl hlc9 hfin
    go_wp2_with (fail)
    have hB7 := HBL.out.set 0 (.slice (some ⟨g,o + j * 2,none⟩) (l.length - j) (l.length - j))
    rw [lnCells_set0] at hB7
    have HK7 := Lib.hid ((Keeps.refl (fun i => i = lb) wr).setCell (p := ⟨lb,0,none⟩) (.inl rfl) (.slice (some ⟨g,o + j * 2,none⟩) (l.length - j) (l.length - j)))
    have HB7 := Lib.hid hB7
    generalize wr.setCell ⟨lb,0,none⟩ (.slice (some ⟨g,o + j * 2,none⟩) (l.length - j) (l.length - j)) = w8 at *
    obtain ⟨w9,hw9⟩ : ∃ y,y = wr := ⟨_,rfl⟩
    subst hw9
    obtain ⟨X,hX⟩ : ∃ X,Value.slice (some ⟨g,o + j * 2,none⟩) (l.length - j) (l.length - j) = X := ⟨_,rfl⟩
    rw [hX] at HB7 HRow
    have HX := Lib.hid hX
    clear hB7 hX d0 f0'
    have HB8 := Lib.hid (show Blk w8 lb (lnCells X (mkM f0 (j : Int) 0)) 95 from by
     rw [lnCells_congr X (f := mkM f0 (j : Int) 0) (g := f0) (fun i _ => by unfold mkM;rw [if_neg (by omega)])];exact HB7.out)
    go_loopw [53] (fun jv wq => ∃ c : Nat,c <= 65 /\ jv = .int .i64 c /\ Blk wq lb (lnCells X (mkM f0 (j : Int) c)) 95 /\ Keeps (fun i => i = lb) w8 wq) (fun jv _ => 65 - (intOf jv).toNat)
    case atStart => exact ⟨0,by omega,rfl,HB8.out,Keeps.refl _ _⟩
    case round =>
     obtain ⟨c,hc,rfl,hb,hk8⟩ := hrel
     have HBc := Lib.hid hb
     have HKc := Lib.hid hk8
     by_cases hlt : c < 65
     ·have hcb : (c : Int) < 65 := by omega
      have d1 : wr.cell? ⟨lb,1 + c,none⟩ = some (.int .i64 (f0 c)) := by
       rw [hb.cell,lnCells_at _ _ _ hlt]
       unfold mkM;rw [if_neg (by omega)]
      have f1 := hb.frozen (1 + c)
      have hmk := HMk.out c
      rw [HF0.out] at hmk
      have qw : IntKind.i64.wrap (f0 c - (j : Int)) = f0 c - (j : Int) := IntWalk.i64_in _ (by omega)
      have hset := hb.set (1 + c) (.int .i64 (max (f0 c - (j : Int)) 0))
      rw [lnCells_setM _ _ _ _ hlt] at hset
      obtain ⟨mx,hmx⟩ : ∃ mx,max (f0 c - (j : Int)) 0 = mx := ⟨_,rfl⟩
      rw [hmx] at hset
      have HSt := Lib.hid hset
      obtain ⟨dd,hdd⟩ : ∃ dd,f0 c - (j : Int) = dd := ⟨_,rfl⟩
      rw [hdd] at hmx qw
      have hx1 : (if dd <= 0 then 0 else dd) = mx := by rw [<- hmx];split <;> omega
      have hx2 : (if 0 <= dd then dd else 0) = mx := by rw [<- hmx];split <;> omega
      have hx3 : (if dd < 0 then 0 else dd) = mx := by rw [<- hmx];split <;> omega
      have hx4 : (if 0 < dd then dd else 0) = mx := by rw [<- hmx];split <;> omega
      have HKn := Lib.hid (hk8.setCell (p := ⟨lb,1 + c,none⟩) (.inl rfl) (.int .i64 mx))
      have HLT := Lib.hid hlt
      clear hb hk8 hset hmx hmk hlt
      go_wp2_with (fail)
      go_roundw
      case rel => exact ⟨c + 1,HLT.out,by go_num,HSt.out,HKn.out⟩
      case measure => have := HLT.out;simp [intOf];omega
     ·obtain rfl : c = 65 := by omega
      clear hb hk8 hlt
      have d0 : wr.cell? ⟨lb,0,none⟩ = some X := by rw [HBc.out.cell];exact lnCells_0 _ _
      have kW : Keeps (fun i => vi.ownBlock = some i ∨ w.heap.size <= i) w wr := (HKX.out.mono (fun _ _ h => h.elim)).trans ((HI9.out.kp.mono (fun i _ h => by rcases h with h | h;exact .inl h;exact .inr (Nat.le_trans HKX.out.size h))).trans (((HK7.out).trans HKc.out).mono (fun i _ h => .inr (by rw [h,HLb.out];exact Nat.le_refl _))))
      have hmlN := HH.out.lt ml (.inr (.inl rfl))
      have hlN : N0 <= lb := by rw [<- HLb.out];exact hN0
      have hO9 := ownL_keeps HH.out.o kW (by rintro (h | h);exact HH.out.x.2.2 h;have := HLb.out;omega)
      have HM9 := Lib.hid (HI9.out.m.kept (HK7.out.trans HKc.out) (fun i hi e => by have := HH.out.lt i (by rcases hi with h | h | h;exact .inl h;exact .inr (.inr (.inl h));exact .inr (.inr (.inr h)));omega))
      have HR9 := Lib.hid (HRow.out.keeps (HK7.out.trans HKc.out) (fun i hi e => by
       rw [<- HX.out] at hi
       have e2 := Option.some.inj hi
       have e3 : g = i := e2
       have := HLb.out
       omega))
      have HKW := Lib.hid kW
      have HC7 := Lib.hid (show wr.cell? ⟨mb,2,none⟩ = some (.map (some ml)) from HM9.out.c 2)
      obtain ⟨f9,hf9⟩ : ∃ f9,mkM f0 (j : Int) 65 = f9 := ⟨_,rfl⟩
      rw [hf9] at HBc
      obtain ⟨D',hD'⟩ : ∃ D',D.put (.int .u64 at_) (.held (.agg (lnCells X f9))) = D' := ⟨_,rfl⟩
      have HU7 := Lib.hid (World.ownsMap.update (hO9.drew) kA Tryz.underlying90 (by unfold maxLen;omega) (keyOf_int_mk Tryz.underlying39 (addr_wf h0 h1)) (val := .agg (lnCells X f9)) (d := .held (.agg (lnCells X f9))) (ps := []) rfl)
      rw [hD'] at HU7
      have HB9 := Lib.hid HBc.out
      have HD9 := Lib.hid hD'
      have HF9 := Lib.hid hf9
      have HIm := Lib.hid hO9.isMap
      have hlz : ¬ l.length - j = 0 := by omega
      have hlz2 : ((((l.length - j : Nat) : Int)) == 0) = false := beq_eq_false_iff_ne.2 (by omega)
      rw [<- HX.out] at d0
      clear kW hO9 hD' hf9
      go_wp2_with (fail)
      refine wp_region_vals [Is (.pointer (some ⟨mb,0,none⟩)),Is (.pointer (some ⟨mb,0,none⟩)),Is (.pointer (some ⟨mb,2,none⟩)),Is (.map (some ml)),Is (.int .u64 at_),Is (.agg (lnCells X f9)),Any]
       (fun _ _ _ => True) (fun L W => StU wr ml n D' 6 L W) (by kernel_rfl) (by kernel_rfl) (by kernel_rfl) ?hst ?h0 ⟨?o0,?o1,?o2,?o3,?o4,?o5,?o6,trivial⟩ ?he
      any_goals (intro L vs A W H hf hd K hK)
      case hst => repeat' (first | exact trivial | refine ⟨fun _ _ _ _ _ _ h _ => h,?_⟩)
      case h0 =>
       exact ⟨fun _ => rfl,fun e => by cases e⟩
      case o0 => have e0 : A.tmps[0]?.getD undef = .pointer (some ⟨mb,0,none⟩) := H.old 0 (by kernel_rfl);go_simp;exact hK _ _ (trivial) rfl (H.glob)
      case o1 => have e76 := H.iz hd 0 76 rfl rfl rfl (by kernel_rfl);go_simp;exact hK _ _ (trivial) rfl (H.glob)
      case o2 => have e77 := H.iz hd 1 77 rfl rfl rfl (by kernel_rfl);go_simp;exact hK _ _ (trivial) rfl (H.glob)
      case o3 => have e78 := H.iz hd 2 78 rfl rfl rfl (by kernel_rfl);have n6 := H.notYet 6 3 rfl hf (by kernel_rfl);have d : W.cell? ⟨mb,2,none⟩ = some (.map (some ml)) := (by rw [H.glob.1 n6];exact HC7.out);go_simp;exact hK _ _ (trivial) rfl (H.glob)
      case o4 => have e1 : A.tmps[1]?.getD undef = .int .u64 at_ := H.old 1 (by kernel_rfl);go_simp;exact hK _ _ (trivial) rfl (H.glob)
      case o5 => have e7 : A.tmps[7]?.getD undef = .pointer (some ⟨lb,0,none⟩) := H.old 7 (by kernel_rfl);have n6 := H.notYet 6 5 rfl hf (by kernel_rfl);rw [if_pos (show Region.wanted _ _ = true from rfl)];exact wp_load_ln _ rfl lb X f9 (ev_tmp e7) (by rw [H.glob.1 n6];exact HB9.out.drew) (hK _ _ trivial rfl H.glob)
      case o6 => have e79 := H.iz hd 3 79 rfl rfl rfl (by kernel_rfl);have e80 := H.iz hd 4 80 rfl rfl rfl (by kernel_rfl);have e81 := H.iz hd 5 81 rfl rfl rfl (by kernel_rfl);have hW := H.glob.1 hf;obtain ⟨w8,hrun,ho8,hg8⟩ := HU7.out;subst hW;go_simp;exact hK undef _ trivial trivial ⟨fun e => (by cases e),fun _ => ⟨ho8,hg8⟩⟩
      case he =>
       intro vs W hlen hv
       match vs,hlen,hv with
       | [x0_,x1_,x2_,x3_,x4_,x5_,x6_],_,hv =>
       obtain rfl := isv hv 0 rfl rfl;obtain rfl := isv hv 1 rfl rfl;obtain rfl := isv hv 2 rfl rfl;obtain rfl := isv hv 3 rfl rfl;obtain rfl := isv hv 4 rfl rfl;obtain rfl := isv hv 5 rfl rfl
       intro L hall hG
       clear hv hlen
       have HW := Lib.hid (hG.2 (hall 6 (by decide)))
       clear hG hall
       simp only [fill,if_true]
       simp [Act.put]
       go_wp2_with (fail)
       go_ret
       have kU : Keeps (fun i => i = ml) wr W := ((Keeps.refl (fun i => i = ml) wr).drew).grown HW.out.2 (fun k e => .inl (Option.some.inj e).symm)
       have kAll : Keeps (fun i => i = ml ∨ vi.ownBlock = some i ∨ w.heap.size <= i) w W := (HKW.out.mono (fun i _ h => by rcases h with h | h;exact .inr (.inl h);exact .inr (.inr h))).trans (kU.mono (fun i _ h => .inl h))
       have hdn : ¬ l.drop k.toNat = [] := by
        rw [HTk.out.2]
        intro e
        have := congrArg List.length e
        rw [List.length_drop] at this
        simp at this
        omega
       unfold LastK
       rw [hl9]
       refine ⟨by rw [HMin.out];rfl,X,fun c => max (f0 c - (j : Int)) 0,D',?_,fun c => by rw [if_neg hdn,HMin.out,HF0.out],kAll,fun i hi => (by rw [<- HX.out] at hi;rw [HS0.out];exact hi),fun b => ?_⟩
       rotate_left 1
       ·rw [<- HD9.out]
        by_cases hb : b = at_
        ·rw [if_pos hb,hb,has_put_same HIm.out (show WideAt.IsKeyLit (.int .u64 at_) from trivial)]
         exact (decide_eq_true hdn).symm
        ·rw [if_neg hb,has_put_other (by intro e;cases e;exact hb rfl)]
       rw [HTk.out.1,HTk.out.2]
       refine last_done HH.out (HM9.out.kept kU (fun i hi e => by
        subst e
        rcases hi with h | h | h
        ·exact HH.out.x.1 h
        ·exact HH.out.x.2.1 h
        ·exact HH.out.x.2.2 h)) HW.out.1 (by
         unfold hasL
         rw [<- HD9.out,atKey_put_same HIm.out (show WideAt.IsKeyLit (.int .u64 at_) from trivial),<- HF9.out]
         rw [lnCells_congr X (f := mkM f0 (j : Int) 65) (g := fun c => max (f0 c - (j : Int)) 0) (fun i hi => by unfold mkM;rw [if_pos hi])]) (fun a z hne => by
         rw [<- HD9.out]
         exact atKey_put_other (by intro e;cases e;exact hne rfl) _ z) kAll (HR9.out.keeps kU (fun i hi e => by
         have := HR9.out.base i hi
         omega)) (fun i hi => by
         rw [<- HX.out] at hi
         rw [HS0.out]
         exact hi)
end Go.Proofs.YtodgfbjjjgohgaaGreat
