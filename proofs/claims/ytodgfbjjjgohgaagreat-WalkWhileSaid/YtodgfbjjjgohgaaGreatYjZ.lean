/-
 A WALK THROUGH ANY TREE,TO ITS END: leveelaw14.done.
-/
import Derived.Test.YtodgfbjjjgohgaaGreatYhZ
import Derived.Test.YtodgfbjjjgohgaaGreatKuZ
namespace Go.Proofs.YtodgfbjjjgohgaaGreat
open Go.RowKit
set_option linter.unusedVariables false

section
variable {rows : List (List (Nat × Nd))} {of st : Nat -> Nat} {Wt : Nat -> Nat -> Nat -> Int} {vsT : Nat -> List Int} {key : Int} {level c : Nat} {N0 : Nat} {st0 : Int} {JJ : Nat -> Nat -> (Int -> List (Int × Int)) -> Int -> Prop} {Q0 : Prop}
variable {w : World} {B U kb xb mb : Nat} {S0 : Nat -> Prop} {j τ : Nat}
theorem hop_step (hT : Tr rows key of st Wt vsT) (hlv : level < rows.length) (hc : c <= 64) (hst : st0 <= 1000) (hj0 : j <= 20000)
  (hJn : ∀ (L i : Nat) (R : List (Nat × Nd)) (x : Nat × Nd) F fe F',rows[L]? = some R -> R[i]? = some x -> st L <= i -> i < of L -> JJ L i F fe -> (∀ b : Int,∃ m,F' b = (F b).drop m) -> (Q0 -> F' (lineOf (x.1 : Int)) = []) -> 0 <= fe -> JJ L (i + 1) F' (fe + 1))
  (hF : FxG w B U kb xb mb S0) (h : HopG rows of st vsT key level c N0 st0 JJ Q0 w B U kb xb mb S0 j τ) :
  Calls Tryz.prog 16 #[.pointer (some ⟨kb,0,none⟩)] w fun e w' => (e = .returned (.tuple #[.bool false,.int .i64 0]) /\ (LookG rows of st Wt vsT key level c N0 st0 JJ w' B w'.heap.size kb xb mb S0 (j + 1) τ ∨ HopG rows of st vsT key level c N0 st0 JJ Q0 w' B w'.heap.size kb xb mb S0 (j + 1) τ)) /\ Keeps (XG kb S0 B U) w w' := by
 obtain ⟨L,i,R,x,y,lt,tt,sb,f,lb,S,is,mk,F,lo,fl,fe,hR,hx,hy,⟨l1,l2,l3⟩,hlt,f2,f3,hb,⟨b1,b2,b3⟩,hM,hBn,hJ,hph⟩ := h
 obtain ⟨C,hxb,hC⟩ := hF.x
 obtain ⟨sk,sx⟩ := hF.sk hM.s
 have hne := hF.ne
 have hle := hF.le
 have hl16 := hT.lvl
 have hlevel : (0 : Int) <= (level : Int) /\ (level : Int) <= 15 := by omega
 obtain ⟨a1,a2,a3⟩ := hT.ad L R i x hR hx
 have hlen := hT.len τ
 obtain ⟨K,hK⟩ : ∃ K,wkHop (wkSeen (wkCome (kB kb xb c key level lt tt) kb sb x.1) f y.2.lo true) kb lb = K := ⟨_,rfl⟩
 have hKu : K.under = laI lb := by rw [<- hK];rfl
 have hKs : K.s = some ⟨xb,0,none⟩ := by rw [<- hK];rfl
 have hKn : K.next = .func (.func 86) #[.pointer (some ⟨kb,0,none⟩)] #[] := by rw [<- hK];rfl
 have hKo : K.over = false := by rw [<- hK];rfl
 have hKl : K.level = (level : Int) := by rw [<- hK];rfl
 have hKf : K.n = f /\ K.high = y.2.lo := by rw [<- hK];exact ⟨rfl,rfl⟩
 rw [hK] at hb
 have n1 : lb ≠ kb := by omega
 have n2 : lb ≠ xb := by omega
 have hklt := hb.lt
 have hkb : ∀ {w'},Keeps (fun i => i = lb ∨ S i) w w' -> Blk w' kb (wkCells K) 70 := fun hk => hb.kept hk (fun e => e.elim (fun e => n1 e.symm) sk)
 have hkx : ∀ {w'},Keeps (fun i => i = lb ∨ S i) w w' -> Blk w' xb C 88 := fun hk => hxb.kept hk (fun e => e.elim (fun e => n2 e.symm) sx)
 have hX : ∀ {w1 w2},Keeps (fun i => i = lb ∨ S i) w w1 -> Keeps (fun i => i = kb) w1 w2 -> Keeps (XG kb S0 B U) w w2 := fun h1 h2 => keepsX hM.s (.inr ⟨b1,b2⟩) h1 h2
 have hS' : ∀ {S' : Nat -> Prop} {w2 : World} {is' mk' F' lo' fl' fe'},MemP w2 mb S' (vsT τ) is' mk' F' lo' st0 fl' fe' -> (∀ i,S' i -> S i ∨ w.heap.size <= i) -> U <= w2.heap.size -> MmG w2 B w2.heap.size mb S0 S' (vsT τ) is' mk' F' lo' st0 fl' fe' := fun hm hs hu => ⟨hm,fun i hi => by
  have hl := hm.lt hi
  rcases hs i hi with h | h
  ·rcases hM.s i h with h | h
   ·exact .inl h
   ·exact .inr (by omega)
  ·exact .inr (by omega)⟩
 have hB1 := hBn.fl
 have hB2 := hBn.fe
 rcases hph with ⟨g,cap,hL,⟨g1,g2,g3⟩,hj⟩ | ⟨A,cap,hbl,hmk,hj⟩
 ·have hfl := lflush_v w lb g cap mb S (vsT τ) is mk F lo st0 fl fe c x.1 hL hM.m ⟨b3,g3⟩ hlen hc (by omega) (by omega) (a3 τ) (by omega) (by omega)
  have hlk := whop_wait w kb lb K (P := fun w' => (∃ A cap',Blk w' lb (lsCells ⟨some ⟨mb,0,none⟩,c,.slice A 0 cap',false,0⟩) 175) /\ FlQ w mb S (vsT τ) is mk F lo st0 fl fe c x.1 w' /\ Keeps (fun i => i = lb ∨ S i) w w') hb hKu hfl
  refine (wgo_hop w kb xb ⟨mb,0,none⟩ C K (P := fun d er k' w' => d = false /\ er = 0 /\ k' = K /\ (∃ A cap',Blk w' lb (lsCells ⟨some ⟨mb,0,none⟩,c,.slice A 0 cap',false,0⟩) 175) /\ FlQ w mb S (vsT τ) is mk F lo st0 fl fe c x.1 w' /\ Keeps (fun i => i = lb ∨ S i) w w')
   hb hKs hxb hC hKn hKo (by rw [hKl];exact hlevel) (hlk.mono ?_)).mono ?_
  ·rintro e w' ⟨rfl,hP1,hP2,hP3⟩
   exact ⟨false,0,_,rfl,hkb hP3,rfl,rfl,rfl,hP1,hP2,hP3⟩
  ·rintro e w' ⟨d,er,k',w2,rfl,hb',⟨rfl,rfl,rfl,⟨A,cap',hbl⟩,hQ,hk1⟩,hk2⟩
   have h1 := hk1.size
   have h2 := hk2.size
   obtain ⟨S',hm',hs'⟩ := hQ.kept hklt sk hk2
   refine ⟨⟨rfl,.inr ⟨L,i,R,x,y,lt,tt,sb,f,lb,S',is,_,F,lo,fl + 1,fe,hR,hx,hy,⟨l1,l2,l3⟩,hlt,f2,f3,?_,⟨b1,by omega,fun e => ?_⟩,hS' hm' hs' (by omega),hBn.flush,hJ,.inr ⟨A,cap',hbl.kept hk2 n1,fun _ => ?_,by omega⟩⟩⟩,hX hk1 hk2⟩
   ·rw [<- hK] at hb';exact hb'
   ·rcases hs' _ e with h | h
    ·exact b3 h
    ·omega
   ·show updM mk _ _ (lineOf (x.1 : Int)) c = _
    unfold updM mkS
    rw [if_pos rfl,if_pos rfl]
 ·have hfe := lfence_v w lb mb S (vsT τ) is mk F lo st0 fl fe c cap A hbl hM.m b3 hlen hc (by omega) (by omega)
  have hlk := whop_done w kb lb xb mb K (P := fun w' => FeQ w mb S (vsT τ) mk F lo st0 fl fe c w' /\ Keeps (fun i => i = lb ∨ S i) w w') hb hKu hKs
   (hfe.mono (fun e w' hP => ⟨hP.1,hkb hP.2.2,⟨C,hkx hP.2.2,hC⟩,hP.2⟩)) hne.2.2.1
  refine (wgo_hop w kb xb ⟨mb,0,none⟩ C K (P := fun d er k' w' => d = false /\ er = 0 /\ ∃ sb' w2,k' = wkCome (hopK K) kb sb' K.n.nx /\ Blk w' sb' (snCells (snNew sb' (some ⟨mb,0,none⟩) K.n.nx)) 164 /\ FeQ w mb S (vsT τ) mk F lo st0 fl fe c w2 /\ Keeps (fun i => i = lb ∨ S i) w w2 /\ Keeps (fun i => i = kb) w2 w' /\ w2.heap.size <= sb')
   hb hKs hxb hC hKn hKo (by rw [hKl];exact hlevel) (hlk.mono ?_)).mono ?_
  ·rintro e w' ⟨sb',rfl,hb',hs',w2,⟨hQ,hk1⟩,hk2,hl1⟩
   exact ⟨false,0,_,rfl,hb',rfl,rfl,sb',w2,rfl,hs',hQ,hk1,hk2,hl1⟩
  ·rintro e w' ⟨d,er,k',w1,rfl,hb',⟨rfl,rfl,sb',w2,rfl,hs',hQ,hk1,hk2,hl1⟩,hk3⟩
   have h1 := hk1.size
   have h2 := hk2.size
   have h3 := hk3.size
   have h4 := hs'.lt
   obtain ⟨S',mk',is',hm2,hsS⟩ := hQ
   have hm' := hm2.kept (hk2.trans hk3) (fun q hq e => by
    subst e
    rcases hsS _ hq with h | h
    ·exact sk h
    ·omega)
   have hmm := hS' hm' hsS (by omega)
   have hrn := rem_next (st := st) l2
   obtain ⟨p1,p2⟩ := hT.pth.lt L R hR
   have hnx : K.n.nx = (y.1 : Int) := by rw [hKf.1];exact f3
   rw [hnx] at hs' hb'
   obtain ⟨lt',tt',hlt',hhk⟩ : ∃ lt' tt',(lt',tt') = hopLT st level L (i + 1) y /\ wkCome (hopK K) kb sb' y.1 = wkCome (kB kb xb c key level lt' tt') kb sb' y.1 := by
    unfold hopK hopLT
    rw [hKf.1,hKl,f2]
    by_cases hll : L = level
    ·rw [if_pos ⟨hll,by omega⟩,if_pos (by omega)]
     refine ⟨_,_,rfl,?_⟩
     rw [hKf.2,f3,<- hK];rfl
    ·rw [if_neg (by omega),if_neg (by omega)]
     have hlt0 : lt = 0 /\ tt = 0 := by
      unfold hopLT at hlt
      rw [if_neg (by omega)] at hlt
      injection hlt with a b
      exact ⟨a,b⟩
     obtain ⟨rfl,rfl⟩ := hlt0
     exact ⟨0,0,rfl,by rw [<- hK];rfl⟩
   have hF' : Q0 -> FF F mk c (lineOf (x.1 : Int)) = [] := fun hq => by
    unfold FF
    rw [hmk hq,Int.toNat_natCast]
    exact List.drop_length
   have hSl : ¬ S' sb' := fun e => by have := hm2.lt e;omega
   refine ⟨⟨rfl,.inl ⟨L,i + 1,R,y,lt',tt',sb',_,τ,0,S',is',mk',FF F mk c,lo,fl,fe + 1,hR,hy,⟨by omega,l2,l3⟩,hlt',?_,hs'.kept hk3 (by omega),WsI.new (Nat.le_refl _),Nat.le_refl _,⟨by omega,by omega,hSl⟩,hmm,hBn.fence,hJn L i R x F fe (FF F mk c) hR hx l1 l2 hJ (fun b => ⟨_,rfl⟩) hF' hBn.fe0,by omega⟩⟩,hX hk1 (hk2.trans hk3)⟩
   rw [hhk] at hb';exact hb'
theorem gstep (hT : Tr rows key of st Wt vsT) (hlv : level < rows.length) (hc : c <= 64) (hst : st0 <= 1000) (hN : rem of st (rows.length - 1) 0 <= N0)
  (hJd : ∀ L F fe,JJ (L + 1) (of (L + 1)) F fe -> JJ L (st L) F fe)
  (hJn : ∀ (L i : Nat) (R : List (Nat × Nd)) (x : Nat × Nd) F fe F',rows[L]? = some R -> R[i]? = some x -> st L <= i -> i < of L -> JJ L i F fe -> (∀ b : Int,∃ m,F' b = (F b).drop m) -> (Q0 -> F' (lineOf (x.1 : Int)) = []) -> 0 <= fe -> JJ L (i + 1) F' (fe + 1))
  (hj : j <= 20000) (h : StG2 rows of st Wt vsT key level c N0 st0 JJ Q0 w B U kb xb mb S0 j τ) :
  Calls Tryz.prog 16 #[.pointer (some ⟨kb,0,none⟩)] w fun e w' => ((e = .returned (.tuple #[.bool false,.int .i64 0]) /\ StG2 rows of st Wt vsT key level c N0 st0 JJ Q0 w' B w'.heap.size kb xb mb S0 (j + 1) τ) ∨
   (e = .returned (.tuple #[.bool true,.int .i64 0]) /\ FxG w' B w'.heap.size kb xb mb S0 /\ EndG rows of st Wt vsT key level c st0 JJ w' B w'.heap.size kb xb mb S0 (j + 1) τ)) /\ Keeps (XG kb S0 B U) w w' := by
 rcases h.p with hp | hp | hp
 ·refine (new_step hT hlv hN h.f hp).mono ?_
  rintro e w' ⟨⟨rfl,hL⟩,hk⟩
  exact ⟨.inl ⟨rfl,h.f.kept hk,.inr (.inl hL)⟩,hk⟩
 ·refine (look_step (Q0 := Q0) hT hlv hJd h.f hp).mono ?_
  rintro e w' ⟨⟨rfl,hL⟩ | ⟨rfl,hE⟩,hk⟩
  ·exact ⟨.inl ⟨rfl,h.f.kept hk,.inr hL⟩,hk⟩
  ·exact ⟨.inr ⟨rfl,h.f.kept hk,hE⟩,hk⟩
 ·refine (hop_step hT hlv hc hst hj hJn h.f hp).mono ?_
  rintro e w' ⟨⟨rfl,hL⟩,hk⟩
  exact ⟨.inl ⟨rfl,h.f.kept hk,.inr hL⟩,hk⟩
end
end Go.Proofs.YtodgfbjjjgohgaaGreat
namespace Go.Proofs.YtodgfbjjjgohgaaGreat
open Go.RowKit
attribute [local go_sem] Oper.semAt_some
set_option linter.unusedVariables false

def DoneE (e : Ending) : Prop := ∃ (c : Int) (sm : Bool),e = .returned (.tuple #[.int .i64 c,.bool sm])
def DoneR (w wr : World) (kb xb mb : Nat) (S : Nat -> Prop) (vs : List Int) (st fl fe client key level r : Int) (j : Nat) : Prop :=
 ∃ U,U <= wr.heap.size /\ Ph wr w.heap.size U kb xb mb S vs st fl fe client key level r j /\ Keeps (fun i => i = kb ∨ S i) w wr
set_option maxRecDepth 100000 in
set_option maxHeartbeats 40000000 in
theorem done_v (w : World) (kb xb mb : Nat) (S : Nat -> Prop) (vs : List Int) (st fl fe client key level r : Int) (n0 : Nd)
  (h : WkW w kb xb mb S vs st fl fe (wkNew kb (some ⟨xb,0,none⟩) client key level)) (h1 : OneN vs r n0) (hl : 0 <= level /\ level <= 15) (hlv : n0.lv <= level) :
  Calls Tryz.prog 11 #[.pointer (some ⟨xb,0,none⟩),.pointer (some ⟨kb,0,none⟩),.int .i64 200] w fun e w' => DoneE e /\ PhE w' kb xb mb S vs st fl fe level r n0 /\ Keeps (fun i => i = kb ∨ S i) w w' := by
 obtain ⟨C,hx,hC⟩ := h.x
 have HMm := Lib.hid (smem_v w xb C _ hx hC)
 have HSt0 := Lib.hid (show DoneR w w kb xb mb S vs st fl fe client key level r 0 from ⟨w.heap.size,Nat.le_refl _,.inl ⟨rfl,h⟩,Keeps.refl _ _⟩)
 have H1 := Lib.hid h1
 have HLv := Lib.hid (And.intro hl hlv)
 have HZ := Lib.hid (show kb < w.heap.size /\ ∀ i,S i -> i < w.heap.size from ⟨h.b.lt,fun i hi => by obtain ⟨is,mk,F,lo,hm⟩ := h.m;exact hm.lt hi⟩)
 clear h hx hC h1 hl hlv C
 go_enter Tryz.func11,Tryz.ntmps11
 go_wp2_with (fail)
 refine HMm.out.mono ?_
 rintro e w1 ⟨rfl,rfl⟩
 go_upto_region 4 with (fail)
 go_loopw [9,10] (fun bv iv wr => ∃ (j : Nat) (sm : Bool),iv = .int .i64 ((j : Int) + 1) /\ bv = .bool sm /\ Hid (DoneR w wr kb xb mb S vs st fl fe client key level r j)) (fun _ iv _ => 300 - (intOf iv).toNat)
 case atStart => exact ⟨0,true,rfl,rfl,HSt0⟩
 case round =>
  obtain ⟨j,sm,rfl,rfl,HI⟩ := hrel
  obtain ⟨U,hU,hP,hK⟩ := HI.out
  have hj := ph_le hP
  have HU := Lib.hid hU
  have HP := Lib.hid hP
  have HK := Lib.hid hK
  have HJ := Lib.hid hj
  have hj2 : (j : Int) + 1 <= 200 := by omega
  obtain ⟨k,hk⟩ := hP.mem
  obtain ⟨lo,hst⟩ := hk.stats
  have HSt := Lib.hid hst
  unfold statCells at HSt
  clear HI hU hP hK hk hst hj HSt0
  go_wp2_with (fail)
  refine HSt.out.mono ?_
  rintro e w9 ⟨rfl,hB9⟩
  obtain ⟨ab,hab⟩ : ∃ ab,w9.heap.size = ab := ⟨_,rfl⟩
  have hba : Blk (w9.alloc (.cells #[.int .u64 lo,.int .u64 st,.int .u64 fl,.int .u64 fe] 75)) ab #[.int .u64 lo,.int .u64 st,.int .u64 fl,.int .u64 fe] 75 := by rw [<- hab];exact Blk.new w9 _ _
  have hB10 : Below wr.heap.size wr (w9.alloc (.cells #[.int .u64 lo,.int .u64 st,.int .u64 fl,.int .u64 fe] 75)) := hB9.alloc hB9.size _
  have HAb := Lib.hid (show U <= ab /\ w.heap.size <= ab /\ ab ≠ kb /\ ¬ S ab from by
   have h1 := HU.out
   have h2 := HK.out.size
   have h3 := hB9.size
   refine ⟨by omega,by omega,by have := HZ.out.1;omega,fun h => ?_⟩
   have := HZ.out.2 ab h
   omega)
  have HBA := Lib.hid hba
  have HB10 := Lib.hid hB10
  clear hba hB10 hB9 HSt
  go_upto_region 7 with (fail)
  obtain ⟨w10,hw10⟩ : ∃ w10,w9.alloc (.cells #[.int .u64 lo,.int .u64 st,.int .u64 fl,.int .u64 fe] 75) = w10 := ⟨_,rfl⟩
  rw [hw10] at HBA HB10 ⊢
  clear hw10 hab
  have HSp := Lib.hid (wstep_ph (HP.out.below HB10.out) (by have := HK.out.size;have := HB10.out.size;omega) H1.out HLv.out.1 HLv.out.2)
  clear HP
  go_wp2_with (fail)
  refine HSp.out.mono ?_
  rintro e w11 ⟨⟨rfl,hP⟩ | ⟨er,rfl,hE⟩,hk11⟩
  ·have HBA11 := Lib.hid (HBA.out.kept hk11 (fun h => by have := HAb.out;rcases h with h | h | h;exact this.2.2.1 h;exact this.2.2.2 h;omega))
   have HK11 := Lib.hid (show Keeps (fun i => i = kb ∨ S i) w w11 from (HK.out.trans ((Keeps.of_below' HB10.out).mono (fun _ _ h => h.elim))).trans' hk11 (fun i hi h => by rcases h with h | h | h;exact .inl h;exact .inr h;omega))
   obtain ⟨k2,hk2⟩ := hP.mem
   obtain ⟨lo2,hst2⟩ := hk2.stats
   have HSt := Lib.hid hst2
   unfold statCells at HSt
   have HP := Lib.hid hP
   clear hP hk11 HSp hk2 hst2
   go_wp2_with (fail)
   refine HSt.out.mono ?_
   rintro e w12 ⟨rfl,hB12⟩
   have hba := HBA11.out.kept (Keeps.of_below' hB12) (fun h => h)
   have hba2 := hba.alloc (.cells #[.int .u64 lo2,.int .u64 st,.int .u64 fl,.int .u64 fe] 75)
   have hB13 : Below w11.heap.size w11 (w12.alloc (.cells #[.int .u64 lo2,.int .u64 st,.int .u64 fl,.int .u64 fe] 75)) := hB12.alloc hB12.size _
   have HI13 := Lib.hid (show DoneR w (w12.alloc (.cells #[.int .u64 lo2,.int .u64 st,.int .u64 fl,.int .u64 fe] 75)) kb xb mb S vs st fl fe client key level r (j + 1) from ⟨w11.heap.size,hB13.size,HP.out.below hB13,HK11.out.trans ((Keeps.of_below' hB13).mono (fun _ _ h => h.elim))⟩)
   have e0 := hba2.cell 0
   have e1 := hba2.cell 1
   have e2 := hba2.cell 2
   have e3 := hba2.cell 3
   clear hB12 hB13 hba hba2 HP HSt
   cases sm with
   | false =>
    go_wp2_with (fail)
    go_roundw
    case rel => exact ⟨j + 1,false,by go_num,rfl,HI13⟩
    case measure => have := HJ.out;simp [intOf];omega
   | true =>
    go_wp2_with (fail)
    all_goals (go_roundw;(case rel => exact ⟨j + 1,_,by go_num,rfl,HI13⟩);(case measure => have := HJ.out;simp [intOf];omega))
  ·have HBA11 := Lib.hid (HBA.out.kept hk11 (fun h => by have := HAb.out;rcases h with h | h | h;exact this.2.2.1 h;exact this.2.2.2 h;omega))
   have HK11 := Lib.hid (show Keeps (fun i => i = kb ∨ S i) w w11 from (HK.out.trans ((Keeps.of_below' HB10.out).mono (fun _ _ h => h.elim))).trans' hk11 (fun i hi h => by rcases h with h | h | h;exact .inl h;exact .inr h;omega))
   obtain ⟨k2,hk2,_⟩ := id hE
   obtain ⟨lo2,hst2⟩ := hk2.stats
   have HSt := Lib.hid hst2
   unfold statCells at HSt
   have HE := Lib.hid hE
   clear hE hk11 HSp hk2 hst2
   go_wp2_with (fail)
   refine HSt.out.mono ?_
   rintro e w12 ⟨rfl,hB12⟩
   have hba := HBA11.out.kept (Keeps.of_below' hB12) (fun h => h)
   have hba2 := hba.alloc (.cells #[.int .u64 lo2,.int .u64 st,.int .u64 fl,.int .u64 fe] 75)
   have hB13 : Below w11.heap.size w11 (w12.alloc (.cells #[.int .u64 lo2,.int .u64 st,.int .u64 fl,.int .u64 fe] 75)) := hB12.alloc hB12.size _
   have HI13 := Lib.hid (show PhE (w12.alloc (.cells #[.int .u64 lo2,.int .u64 st,.int .u64 fl,.int .u64 fe] 75)) kb xb mb S vs st fl fe level r n0 from HE.out.below hB13)
   have HK13 := Lib.hid (HK11.out.trans ((Keeps.of_below' hB13).mono (fun _ _ h => h.elim)))
   have e0 := hba2.cell 0
   have e1 := hba2.cell 1
   have e2 := hba2.cell 2
   have e3 := hba2.cell 3
   clear hB12 hB13 hba hba2 HE HSt
   cases sm with
   | false =>
    go_wp2_with (fail)
    go_ret2
    exact ⟨⟨_,_,rfl⟩,HI13.out,HK13.out⟩
   | true =>
    go_wp2_with (fail)
    all_goals (go_ret2;exact ⟨⟨_,_,rfl⟩,HI13.out,HK13.out⟩)
end Go.Proofs.YtodgfbjjjgohgaaGreat
namespace Go.Proofs.YtodgfbjjjgohgaaGreat
open Go.RowKit
attribute [local go_sem] Oper.semAt_some
set_option linter.unusedVariables false

def MemL (w : World) (mb : Nat) : Prop := ∃ S vs is mk F lo st fl fe,MemP w mb S vs is mk F lo st fl fe
section
variable {rows : List (List (Nat × Nd))} {of st : Nat -> Nat} {Wt : Nat -> Nat -> Nat -> Int} {vsT : Nat -> List Int} {key : Int} {level c : Nat} {N0 : Nat} {st0 : Int} {JJ : Nat -> Nat -> (Int -> List (Int × Int)) -> Int -> Prop} {Q0 : Prop}
variable {B kb xb mb : Nat} {S0 : Nat -> Prop}
def EndP (rows : List (List (Nat × Nd))) (of st : Nat -> Nat) (Wt : Nat -> Nat -> Nat -> Int) (vsT : Nat -> List Int) (key : Int) (level c : Nat) (st0 : Int) (JJ : Nat -> Nat -> (Int -> List (Int × Int)) -> Int -> Prop) (B kb xb mb : Nat) (S0 : Nat -> Prop) (τ : Nat) (w : World) : Prop :=
 ∃ U j,FxG w B U kb xb mb S0 /\ EndG rows of st Wt vsT key level c st0 JJ w B U kb xb mb S0 j τ
def ZG (kb : Nat) (S0 : Nat -> Prop) (B : Nat) : Nat -> Prop := fun i => i = kb ∨ S0 i ∨ B <= i
end
end Go.Proofs.YtodgfbjjjgohgaaGreat
