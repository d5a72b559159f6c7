/-
 A WALK THROUGH ANY TREE: one step.
-/
import Derived.Test.YtodgfbjjjgohgaaGreatYgZ
namespace Go.Proofs.YtodgfbjjjgohgaaGreat
open Go.RowKit
attribute [local go_sem] Oper.semAt_some
set_option linter.unusedVariables false

set_option maxRecDepth 100000 in
set_option maxHeartbeats 4000000 in
theorem wroot_x (w : World) (kb xb mb : Nat) (S : Nat -> Prop) (vs is : List Int) (mk : Int -> Nat -> Int) (F : Int -> List (Int × Int)) (lo st fl fe : Int) (k : Wk) (C : Array Value)
  (hb : Blk w kb (wkCells k) 70) (hs : k.s = some ⟨xb,0,none⟩) (hx : Blk w xb C 88) (hC : C[0]? = some (.pointer (some ⟨mb,0,none⟩))) (hm : MemP w mb S vs is mk F lo st fl fe) (hne : xb ≠ kb /\ ¬ S kb /\ ¬ S xb) (he : atE vs.length 16 = 0) (r : Int) (hr : ldW vs 16 = r) :
  Calls Tryz.prog 26 #[.pointer (some ⟨kb,0,none⟩)] w fun e w' => ∃ sb lo',e = .returned (.tuple #[.bool false,.int .i64 0]) /\ Blk w' kb (wkCells (wkCome k kb sb r)) 70 /\ Blk w' sb (snCells (snNew sb (some ⟨mb,0,none⟩) r)) 164 /\ w.heap.size <= sb /\ MemP w' mb S vs is mk F lo' st fl fe /\ Keeps (fun i => i = kb ∨ S i) w w' := by
 have HH := Lib.hid (And.intro hb (And.intro hs hne))
 have HMm := Lib.hid (smem_v w xb C _ hx hC)
 have hl := load_w hm 16 (by decide) (by decide)
 rw [he,hr] at hl
 have HL := Lib.hid hl
 have c0 : w.cell? ⟨kb,0,none⟩ = some (.pointer (some ⟨xb,0,none⟩)) := (hb.cell 0).trans ((wk_hd _ 0 (by decide)).trans (by simp [wkHd,hs]))
 have HX := Lib.hid (And.intro hx hC)
 clear hb hs hl he hx hC hm hne hr
 go_enter Tryz.func26,Tryz.ntmps26
 go_wp2_with (fail)
 refine HMm.out.mono ?_
 rintro e w1 ⟨rfl,rfl⟩
 go_wp2_with (fail)
 refine (rootAt_v w).mono ?_
 rintro e w1 ⟨rfl,rfl⟩
 go_wp2_with (fail)
 refine HL.out.mono ?_
 rintro e w2 ⟨rfl,hm2,hk2⟩
 have hb2 := HH.out.1.kept hk2 HH.out.2.2.2.1
 have hx2 := HX.out.1.kept hk2 HH.out.2.2.2.2
 have HC2 := Lib.hid (wcome_v k kb xb (some ⟨mb,0,none⟩) r C w2 hb2 HH.out.2.1 hx2 HX.out.2 HH.out.2.2.1)
 have HM2 := Lib.hid hm2
 have HK2 := Lib.hid hk2
 clear hb2 hx2 hm2 hk2 HL c0
 go_wp2_with (fail)
 refine HC2.out.mono ?_
 rintro e w3 ⟨sb,rfl,hs3,hsz,hb3,hk3⟩
 have HE := Lib.hid (show ∃ lo',Blk w3 kb (wkCells (wkCome k kb sb r)) 70 /\ Blk w3 sb (snCells (snNew sb (some ⟨mb,0,none⟩) r)) 164 /\ w.heap.size <= sb /\ MemP w3 mb S vs is mk F lo' st fl fe /\ Keeps (fun i => i = kb ∨ S i) w w3 from
  ⟨_,hb3,hs3,Nat.le_trans HK2.out.size hsz,HM2.out.kept hk3 (fun i hi e => HH.out.2.2.2.1 (e ▸ hi)),(HK2.out.mono (fun _ _ h => .inr h)).trans (hk3.mono (fun _ _ h => .inl h))⟩)
 clear hs3 hsz hb3 hk3 HM2 HK2 HC2
 go_wp2_with (fail)
 go_ret2
 obtain ⟨lo',hE⟩ := HE.out
 exact ⟨sb,lo',rfl,hE⟩
section
variable {rows : List (List (Nat × Nd))} {of st : Nat -> Nat} {Wt : Nat -> Nat -> Nat -> Int} {vsT : Nat -> List Int} {key : Int} {level c : Nat} {N0 : Nat} {st0 : Int} {JJ : Nat -> Nat -> (Int -> List (Int × Int)) -> Int -> Prop} {Q0 : Prop}
variable {w : World} {B U kb xb mb : Nat} {S0 : Nat -> Prop} {j τ : Nat}
def XG (kb : Nat) (S0 : Nat -> Prop) (B U : Nat) : Nat -> Prop := fun i => i = kb ∨ S0 i ∨ (B <= i /\ i < U)
theorem FxG.sk (h : FxG w B U kb xb mb S0) {S : Nat -> Prop} (hS : ∀ i,S i -> S0 i ∨ (B <= i /\ i < U)) : ¬ S kb /\ ¬ S xb :=
 ⟨fun e => by rcases hS _ e with h1 | h1;exact h.ne.2.2.2.1 h1;have := h.ne.1;omega,fun e => by rcases hS _ e with h1 | h1;exact h.ne.2.2.2.2.1 h1;have := h.ne.2.1;omega⟩
theorem FxG.xn (h : FxG w B U kb xb mb S0) : ¬ XG kb S0 B U xb := by
 rintro (e | e | e)
 ·exact h.ne.2.2.1 e
 ·exact h.ne.2.2.2.2.1 e
 ·have := h.ne.2.1;omega
theorem FxG.kept {w' : World} (h : FxG w B U kb xb mb S0) (hk : Keeps (XG kb S0 B U) w w') : FxG w' B w'.heap.size kb xb mb S0 := by
 obtain ⟨C,hx,hC⟩ := h.x
 exact ⟨⟨C,hx.kept hk h.xn,hC⟩,h.ne,by have := h.le;have := hk.size;omega,Nat.le_refl _⟩
theorem keepsX {w1 w2 : World} {S : Nat -> Prop} (hS : ∀ i,S i -> S0 i ∨ (B <= i /\ i < U)) {a : Nat} (ha : a = kb ∨ (B <= a /\ a < U)) (h1 : Keeps (fun i => i = a ∨ S i) w w1) (h2 : Keeps (fun i => i = kb) w1 w2) : Keeps (XG kb S0 B U) w w2 :=
 (h1.mono (fun i _ e => by rcases e with e | e;(subst e;rcases ha with h | h;exact .inl h;exact .inr (.inr h));exact .inr (hS i e))).trans (h2.mono (fun _ _ e => .inl e))
theorem new_step (hT : Tr rows key of st Wt vsT) (hlv : level < rows.length) (hN : rem of st (rows.length - 1) 0 <= N0) (hF : FxG w B U kb xb mb S0) (h : NewG rows vsT key level c st0 JJ w B U kb xb mb S0 j τ) :
  Calls Tryz.prog 16 #[.pointer (some ⟨kb,0,none⟩)] w fun e w' => (e = .returned (.tuple #[.bool false,.int .i64 0]) /\ LookG rows of st Wt vsT key level c N0 st0 JJ w' B w'.heap.size kb xb mb S0 (j + 1) τ) /\ Keeps (XG kb S0 B U) w w' := by
 obtain ⟨S,is,mk,F,lo,fl,fe,rfl,hb,hM,hBn,hJ⟩ := h
 obtain ⟨C,hx,hC⟩ := hF.x
 have hl16 := hT.lvl
 obtain ⟨R,hR⟩ : ∃ R,rows[rows.length - 1]? = some R := ⟨_,List.getElem?_eq_getElem (by omega)⟩
 obtain ⟨p1,p2⟩ := hT.pth.lt _ _ hR
 obtain ⟨x,hx0⟩ : ∃ x,R[0]? = some x := ⟨_,List.getElem?_eq_getElem (by omega)⟩
 have hst := hT.pth.top (rows.length - 1) (by omega)
 obtain ⟨sk,sx⟩ := hF.sk hM.s
 have hr := wroot_x w kb xb mb S (vsT τ) is mk F lo st0 fl fe (kB kb xb c key level 0 0) C hb rfl hx hC hM.m ⟨hF.ne.2.2.1,sk,sx⟩ (hT.ru τ) x.1 (hT.rt τ R x hR hx0)
 refine (wgo_root w kb xb ⟨mb,0,none⟩ C (kB kb xb c key level 0 0)
  (P := fun d er k' w' => d = false /\ er = 0 /\ ∃ sb lo',k' = wkCome (kB kb xb c key level 0 0) kb sb x.1 /\ Blk w' sb (snCells (snNew sb (some ⟨mb,0,none⟩) x.1)) 164 /\ w.heap.size <= sb /\ MemP w' mb S (vsT τ) is mk F lo' st0 fl fe /\ Keeps (fun i => i = kb ∨ S i) w w')
  hb rfl hx hC rfl rfl ⟨by show (0 : Int) <= (level : Int);omega,by show (level : Int) <= 15;omega⟩ (hr.mono ?_)).mono ?_
 ·rintro e w' ⟨sb,lo',rfl,h1,h2,h3,h4,h5⟩
  exact ⟨false,0,_,rfl,h1,rfl,rfl,sb,lo',rfl,h2,h3,h4,h5⟩
 ·rintro e w' ⟨d,er,k',w1,rfl,hb',⟨rfl,rfl,sb,lo',rfl,h2,h3,h4,h5⟩,hk⟩
  have hle := hF.le
  have hsz := h5.size
  have hsb := h2.lt
  have hsk := hk.size
  have hnk : sb ≠ kb := by have := hF.ne.1;omega
  have hnS : ¬ S sb := fun e => by
   rcases hM.s _ e with h | h
   ·have := hF.ne.2.2.2.2.2 _ h;omega
   ·omega
  refine ⟨⟨rfl,rows.length - 1,0,R,x,0,0,sb,_,τ,0,S,is,mk,F,lo',fl,fe,hR,hx0,⟨by omega,Nat.zero_le _,by omega⟩,?_,hb',h2.kept hk hnk,WsI.new (Nat.le_refl _),Nat.le_refl _,⟨by omega,by omega,hnS⟩,⟨h4.kept hk (fun i hi e => sk (e ▸ hi)),fun i hi => ?_⟩,hBn.next,hJ,by omega⟩,keepsX hM.s (.inl rfl) h5 hk⟩
  ·unfold hopLT;rw [if_neg (by omega)]
  ·rcases hM.s i hi with h | h
   ·exact .inl h
   ·exact .inr (by omega)
theorem look_step (hT : Tr rows key of st Wt vsT) (hlv : level < rows.length)
  (hJd : ∀ L F fe,JJ (L + 1) (of (L + 1)) F fe -> JJ L (st L) F fe)
  (hF : FxG w B U kb xb mb S0) (h : LookG rows of st Wt vsT key level c N0 st0 JJ w B U kb xb mb S0 j τ) :
  Calls Tryz.prog 16 #[.pointer (some ⟨kb,0,none⟩)] w fun e w' => ((e = .returned (.tuple #[.bool false,.int .i64 0]) /\ (LookG rows of st Wt vsT key level c N0 st0 JJ w' B w'.heap.size kb xb mb S0 (j + 1) τ ∨ HopG rows of st vsT key level c N0 st0 JJ Q0 w' B w'.heap.size kb xb mb S0 (j + 1) τ)) ∨
   (e = .returned (.tuple #[.bool true,.int .i64 0]) /\ EndG rows of st Wt vsT key level c st0 JJ w' B w'.heap.size kb xb mb S0 (j + 1) τ)) /\ Keeps (XG kb S0 B U) w w' := by
 obtain ⟨L,i,R,x,lt,tt,sb,s,τ0,js,S,is,mk,F,lo,fl,fe,hR,hx,⟨l1,l2,l3⟩,hlt,hb,hs,hI,hτ,⟨b1,b2,b3⟩,hM,hBn,hJ,hj⟩ := h
 obtain ⟨C,hxb,hC⟩ := hF.x
 obtain ⟨sk,sx⟩ := hF.sk hM.s
 have hne := hF.ne
 have hle := hF.le
 have hl16 := hT.lvl
 have hlevel : (0 : Int) <= (level : Int) /\ (level : Int) <= 15 := by omega
 obtain ⟨K,hK⟩ : ∃ K,wkCome (kB kb xb c key level lt tt) kb sb x.1 = K := ⟨_,rfl⟩
 have hKu : K.under = snI sb := by rw [<- hK];rfl
 have hKs : K.s = some ⟨xb,0,none⟩ := by rw [<- hK];rfl
 have hKn : K.next = .func (.func 72) #[.pointer (some ⟨kb,0,none⟩)] #[] := by rw [<- hK];rfl
 have hKo : K.over = false := by rw [<- hK];rfl
 have hKl : K.level = (level : Int) := by rw [<- hK];rfl
 have hKk : K.key = key := by rw [<- hK];rfl
 have hKc : K.client = (c : Int) /\ K.at_ = (x.1 : Int) := by rw [<- hK];exact ⟨rfl,rfl⟩
 rw [hK] at hb
 have n1 : sb ≠ kb := by omega
 have n2 : sb ≠ xb := by omega
 obtain ⟨d,er,s',lo',hSt,hCall⟩ := step_ws w s sb mb S (vsT τ) is mk F lo st0 fl fe js (hT.crs L R i x hR hx) hτ (hT.hld τ L R i x hR hx) hs hM.m b3 hI (hT.u64 L R i x hR hx)
 have hkb : ∀ {w'},Keeps (fun i => i = sb ∨ S i) w w' -> Blk w' kb (wkCells K) 70 := fun hk => hb.kept hk (fun e => e.elim (fun e => n1 e.symm) sk)
 have hkx : ∀ {w'},Keeps (fun i => i = sb ∨ S i) w w' -> Blk w' xb C 88 := fun hk => hxb.kept hk (fun e => e.elim (fun e => n2 e.symm) sx)
 have hX : ∀ {w1 w2},Keeps (fun i => i = sb ∨ S i) w w1 -> Keeps (fun i => i = kb) w1 w2 -> Keeps (XG kb S0 B U) w w2 := fun h1 h2 => keepsX hM.s (.inr ⟨b1,b2⟩) h1 h2
 have hMk : ∀ {w1 w2},Keeps (fun i => i = sb ∨ S i) w w1 -> MemP w1 mb S (vsT τ) is mk F lo' st0 fl fe -> Keeps (fun i => i = kb) w1 w2 -> MmG w2 B w2.heap.size mb S0 S (vsT τ) is mk F lo' st0 fl fe := fun h1 hm h2 =>
  ⟨hm.kept h2 (fun i hi e => sk (e ▸ hi)),fun i hi => by
   have := h1.size
   have := h2.size
   rcases hM.s i hi with h | h
   ·exact .inl h
   ·exact .inr (by omega)⟩
 have hjs := hI.le hτ
 rcases hSt with ⟨rfl,rfl,hI'⟩ | ⟨rfl,hD⟩
 ·have hlk := wlook_wait w kb sb K (P := fun w' => Blk w' sb (snCells s') 164 /\ MemP w' mb S (vsT τ) is mk F lo' st0 fl fe /\ Keeps (fun i => i = sb ∨ S i) w w') hb hKu (hCall.mono (fun e w' hP => ⟨hP.e,hkb hP.k,hP.b,hP.m,hP.k⟩))
  refine (wgo_look w kb xb ⟨mb,0,none⟩ C K (P := fun d er k' w' => d = false /\ er = 0 /\ k' = K /\ Blk w' sb (snCells s') 164 /\ MemP w' mb S (vsT τ) is mk F lo' st0 fl fe /\ Keeps (fun i => i = sb ∨ S i) w w')
   hb hKs hxb hC hKn hKo (by rw [hKl];exact hlevel) (hlk.mono ?_)).mono ?_
  ·rintro e w' ⟨rfl,hb',hP⟩
   exact ⟨false,0,_,rfl,hb',rfl,rfl,rfl,hP⟩
  ·rintro e w' ⟨d,er,k',w2,rfl,hb',⟨rfl,rfl,rfl,hs2,hm2,hk1⟩,hk2⟩
   have h1 := hk1.size
   have h2 := hk2.size
   refine ⟨.inl ⟨rfl,.inl ⟨L,i,R,x,lt,tt,sb,s',τ0,js + 1,S,is,mk,F,lo',fl,fe,hR,hx,⟨l1,l2,l3⟩,hlt,?_,hs2.kept hk2 n1,hI',hτ,⟨b1,by omega,b3⟩,hMk hk1 hm2 hk2,hBn.next,hJ,by omega⟩⟩,hX hk1 hk2⟩
   rw [<- hK] at hb';exact hb'
 ·obtain ⟨T,t0,t1,her,hfd,hha,hhi⟩ := hD.res
  obtain ⟨f1,f2,f3,f4⟩ := hT.fnd L R i x T hR hx
  have hnx : Wt x.1 T 2 = x.2.nx := (hT.crs L R i x hR hx).nx T
  rw [f1] at her
  subst her
  rw [<- hfd] at f2 f3 f4
  rw [hnx] at hha hhi
  obtain ⟨p1,p2⟩ := hT.pth.lt L R hR
  by_cases hio : i < of L
  ·obtain ⟨y,hy⟩ : ∃ y,R[i + 1]? = some y := ⟨_,List.getElem?_eq_getElem (by omega)⟩
   have hyl := (hT.pth.hop L R i y hR hy).2 hio
   have hn := hT.nx L R i x hR hx
   rw [hy] at hn
   have hn' : x.2.nx = (y.1 : Int) := hn
   have hy0 := (hT.ad L R (i + 1) y hR hy).1
   have hnz : x.2.nx ≠ 0 := by omega
   have hh := hhi hnz
   rw [loK_get hy] at hh
   rw [decide_eq_true hnz] at hha
   have hlk := wlook_next w kb sb xb mb K (P := fun sN w' => sN = s' /\ MemP w' mb S (vsT τ) is mk F lo' st0 fl fe /\ Keeps (fun i => i = sb ∨ S i) w w') hb hKu hKs
    (hCall.mono (fun e w' hP => ⟨hP.e,hkb hP.k,s',hP.b,hD.over,hD.e,hD.step,⟨hha,by rw [hh,hKk];exact hyl⟩,⟨C,hkx hP.k,hC⟩,rfl,hP.m,hP.k⟩)) n1 hne.2.2.1
   refine (wgo_look w kb xb ⟨mb,0,none⟩ C K (P := fun d er k' w' => d = false /\ er = 0 /\ ∃ lb g cap w2,k' = wkHop (wkSeen K s'.found s'.high true) kb lb /\ LsW w' lb g cap (some ⟨mb,0,none⟩) K.client K.at_ /\ MemP w2 mb S (vsT τ) is mk F lo' st0 fl fe /\ Keeps (fun i => i = sb ∨ S i) w w2 /\ Keeps (fun i => i = kb) w2 w' /\ w2.heap.size <= lb /\ w2.heap.size <= g)
    hb hKs hxb hC hKn hKo (by rw [hKl];exact hlevel) (hlk.mono ?_)).mono ?_
   ·rintro e w' ⟨sN,lb,g,cap,rfl,hb',hL,w2,⟨rfl,hm2,hk1⟩,hk2,hl1,hl2⟩
    exact ⟨false,0,_,rfl,hb',rfl,rfl,lb,g,cap,w2,rfl,hL,hm2,hk1,hk2,hl1,hl2⟩
   ·rintro e w' ⟨d,er,k',w1,rfl,hb',⟨rfl,rfl,lb,g,cap,w2,rfl,hL,hm2,hk1,hk2,hl1,hl2⟩,hk3⟩
    have h1 := hk1.size
    have h2 := hk2.size
    have h3 := hk3.size
    have h4 := hL.b.lt
    have h5 := hL.gl
    have hSl : ∀ q,w2.heap.size <= q -> ¬ S q := fun q hq e => by
     rcases hM.s q e with h | h
     ·have := hne.2.2.2.2.2 q h;omega
     ·omega
    rw [hKc.1,hKc.2] at hL
    rw [hh] at hb'
    refine ⟨.inl ⟨rfl,.inr ⟨L,i,R,x,y,lt,tt,sb,s'.found,lb,S,is,mk,F,lo',fl,fe,hR,hx,hy,⟨l1,hio,l3⟩,hlt,f2,f3.trans hn',?_,⟨by omega,by omega,hSl lb hl1⟩,hMk hk1 hm2 (hk2.trans hk3),hBn.next,hJ,.inl ⟨g,cap,hL.kept hk3 (by omega) (by omega),⟨by omega,by omega,hSl g hl2⟩,by omega⟩⟩⟩,hX hk1 (hk2.trans hk3)⟩
    rw [<- hK] at hb';exact hb'
  ·have hie : i = of L := by omega
   have hkh : s'.has = true -> K.key < s'.high := fun e => by
    rw [hha] at e
    have hnz : x.2.nx ≠ 0 := of_decide_eq_true e
    have hn := hT.nx L R i x hR hx
    cases hy : R[i + 1]? with
    | none => rw [hy] at hn;exact absurd hn hnz
    | some y =>
     have h3 := hT.pth.hop L R i y hR hy
     have h4 := hhi hnz
     rw [loK_get hy] at h4
     rw [h4,hKk]
     have : ¬ y.2.lo <= key := fun e => hio (h3.1 e)
     omega
   by_cases hll : L = level
   ·have hlk := wlook_here w kb sb K (P := fun sN w' => sN = s' /\ MemP w' mb S (vsT τ) is mk F lo' st0 fl fe /\ Keeps (fun i => i = sb ∨ S i) w w') hb hKu
     (hCall.mono (fun e w' hP => ⟨hP.e,hkb hP.k,s',hP.b,hD.over,hD.e,hD.step,hkh,by rw [f2,hKl];omega,rfl,hP.m,hP.k⟩)) n1
    refine (wgo_look w kb xb ⟨mb,0,none⟩ C K (P := fun d er k' w' => d = true /\ er = 0 /\ ∃ hw hs w2,k' = wkSeen K s'.found hw hs /\ MemP w2 mb S (vsT τ) is mk F lo' st0 fl fe /\ Keeps (fun i => i = sb ∨ S i) w w2 /\ Keeps (fun i => i = kb) w2 w')
     hb hKs hxb hC hKn hKo (by rw [hKl];exact hlevel) (hlk.mono ?_)).mono ?_
    ·rintro e w' ⟨sN,rfl,hb',w2,⟨rfl,hm2,hk1⟩,hk2⟩
     refine ⟨true,_,_,rfl,hb',rfl,?_,_,_,w2,rfl,hm2,hk1,hk2⟩
     rw [if_neg (by rw [f2,hKl];omega)]
    ·rintro e w' ⟨d,er,k',w1,rfl,hb',⟨rfl,rfl,hw,hs,w2,rfl,hm2,hk1,hk2⟩,hk3⟩
     subst hll
     refine ⟨.inr ⟨rfl,R,x,lt,tt,sb,hw,hs,T,S,is,mk,F,lo',fl,fe,hR,by rw [<- hie];exact hx,by rw [<- hie];exact hlt,t1,?_,hMk hk1 hm2 (hk2.trans hk3),hBn.next,by rw [<- hie];exact hJ⟩,hX hk1 (hk2.trans hk3)⟩
     rw [<- hK,hfd] at hb';exact hb'
   ·obtain ⟨M,rfl⟩ : ∃ M,L = M + 1 := ⟨L - 1,by omega⟩
    have hlr := (List.getElem?_eq_some_iff.1 hR).1
    obtain ⟨Rb,hRb⟩ : ∃ Rb,rows[M]? = some Rb := ⟨_,List.getElem?_eq_getElem (by omega)⟩
    obtain ⟨q1,q2⟩ := hT.pth.lt M Rb hRb
    obtain ⟨y,hy⟩ : ∃ y,Rb[st M]? = some y := ⟨_,List.getElem?_eq_getElem (by omega)⟩
    have hch := hT.pth.child M R Rb x y hR hRb (by rw [<- hie];exact hx) hy
    have hfc : s'.found.child K.key = (y.1 : Int) := by rw [hKk,f4 (by omega)];exact hch
    have hlk := wlook_down w kb sb xb mb K (P := fun sN w' => sN = s' /\ MemP w' mb S (vsT τ) is mk F lo' st0 fl fe /\ Keeps (fun i => i = sb ∨ S i) w w') hb hKu hKs
     (hCall.mono (fun e w' hP => ⟨hP.e,hkb hP.k,s',hP.b,hD.over,hD.e,hD.step,⟨hkh,by rw [f2,hKl];omega⟩,⟨C,hkx hP.k,hC⟩,rfl,hP.m,hP.k⟩)) n1 hne.2.2.1
    refine (wgo_look w kb xb ⟨mb,0,none⟩ C K (P := fun d er k' w' => d = false /\ er = 0 /\ ∃ hw hs sb' w2,k' = wkCome (wkSeen K s'.found hw hs) kb sb' y.1 /\ Blk w' sb' (snCells (snNew sb' (some ⟨mb,0,none⟩) y.1)) 164 /\ MemP w2 mb S (vsT τ) is mk F lo' st0 fl fe /\ Keeps (fun i => i = sb ∨ S i) w w2 /\ Keeps (fun i => i = kb) w2 w' /\ w2.heap.size <= sb')
     hb hKs hxb hC hKn hKo (by rw [hKl];exact hlevel) (hlk.mono ?_)).mono ?_
    ·rintro e w' ⟨sN,hw,hs,sb',rfl,hb',hs',w2,⟨rfl,hm2,hk1⟩,hk2,hl1⟩
     rw [hfc] at hb' hs'
     exact ⟨false,0,_,rfl,hb',rfl,rfl,hw,hs,sb',w2,rfl,hs',hm2,hk1,hk2,hl1⟩
    ·rintro e w' ⟨d,er,k',w1,rfl,hb',⟨rfl,rfl,hw,hs,sb',w2,rfl,hs',hm2,hk1,hk2,hl1⟩,hk3⟩
     have h1 := hk1.size
     have h2 := hk2.size
     have h3 := hk3.size
     have h4 := hs'.lt
     have hSl : ¬ S sb' := fun e => by
      rcases hM.s _ e with h | h
      ·have := hne.2.2.2.2.2 _ h;omega
      ·omega
     have hrd := rem_down (of := of) (st := st) (L := M)
     have hlt0 : lt = 0 /\ tt = 0 := by
      unfold hopLT at hlt
      rw [if_neg (by omega)] at hlt
      injection hlt with a b
      exact ⟨a,b⟩
     obtain ⟨rfl,rfl⟩ := hlt0
     refine ⟨.inl ⟨rfl,.inl ⟨M,st M,Rb,y,0,0,sb',_,τ,0,S,is,mk,F,lo',fl,fe,hRb,hy,⟨Nat.le_refl _,q2,by omega⟩,?_,?_,hs'.kept hk3 (by omega),WsI.new (Nat.le_refl _),Nat.le_refl _,⟨by omega,by omega,hSl⟩,hMk hk1 hm2 (hk2.trans hk3),hBn.next,hJd M F fe (by rw [<- hie];exact hJ),?_⟩⟩,hX hk1 (hk2.trans hk3)⟩
     ·unfold hopLT;rw [if_neg (by omega)]
     ·rw [<- hK] at hb';exact hb'
     ·rw [hie] at hj;omega
end
end Go.Proofs.YtodgfbjjjgohgaaGreat
