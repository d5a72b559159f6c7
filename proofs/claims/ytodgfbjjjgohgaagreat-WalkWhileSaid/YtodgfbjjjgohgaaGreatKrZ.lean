/-
 THE WAY TO A KEY,level by level. (Plain.)
-/
import Derived.Test.YtodgfbjjjgohgaaGreatKpZ
import Derived.Test.YtodgfbjjjgohgaaGreatNfZ
namespace Go.Proofs.YtodgfbjjjgohgaaGreat
open Go.RowKit
set_option linter.unusedVariables false

structure EntOk (l : List (Int × Int)) : Prop where
 u : U64E l
 rise : ∀ i j,i < j -> j < l.length -> eK l i < eK l j
 ptr : ∀ i,i < l.length -> eP l i ≠ 0
/-! . -/
theorem eK_drop (l : List (Int × Int)) (k j : Nat) : eK (l.drop k) j = eK l (k + j) := by
 unfold eK;rw [List.getD_eq_getElem?_getD,List.getD_eq_getElem?_getD,List.getElem?_drop]
theorem eP_drop (l : List (Int × Int)) (k j : Nat) : eP (l.drop k) j = eP l (k + j) := by
 unfold eP;rw [List.getD_eq_getElem?_getD,List.getD_eq_getElem?_getD,List.getElem?_drop]
theorem ownG_k (l : List (Int × Int)) (per fr j : Nat) : eK (ownG l per fr) j = if j < per then eK l (fr + j) else 0 := by unfold ownG;rw [eK_take,eK_drop]
theorem ownG_p (l : List (Int × Int)) (per fr j : Nat) : eP (ownG l per fr) j = if j < per then eP l (fr + j) else 0 := by unfold ownG;rw [eP_take,eP_drop]
section
variable {lv per : Nat} {l : List (Int × Int)} {R : List (Nat × Nd)}
theorem RowP.lo (h : RowP lv per l R) (hp : 1 <= per) {i : Nat} {x : Nat × Nd} (hx : R[i]? = some x) : x.2.lo = if i = 0 then 0 else eK l (i * per) := by
 rw [h.nd i x hx]
 show (if (i == 0) = true then (0 : Int) else eK (ownG l per (i * per)) 0) = _
 by_cases e : i = 0
 ·rw [if_pos (by simp [e]),if_pos e]
 ·rw [if_neg (by simp [e]),if_neg e,ownG_k,if_pos (by omega),Nat.add_zero]
theorem RowP.lvl (h : RowP lv per l R) {i : Nat} {x : Nat × Nd} (hx : R[i]? = some x) : x.2.lv = (lv : Int) /\ x.2.ct = 0 := by
 rw [h.nd i x hx];exact ⟨rfl,rfl⟩
theorem RowP.nx (h : RowP lv per l R) {i : Nat} {x : Nat × Nd} (hx : R[i]? = some x) : x.2.nx = match R[i + 1]? with | some y => (y.1 : Int) | none => 0 := by
 rw [h.nd i x hx]
 cases R[i + 1]? <;> rfl
theorem RowP.lo_lt (h : RowP lv per l R) (he : EntOk l) (hp : 1 <= per) {i j : Nat} {x y : Nat × Nd} (hij : i < j) (hx : R[i]? = some x) (hy : R[j]? = some y) : x.2.lo < y.2.lo := by
 have hj := (List.getElem?_eq_some_iff.1 hy).1
 have h1 := (h.ln j (by omega)).1 hj
 rw [h.lo hp hx,h.lo hp hy,if_neg (show ¬ j = 0 by omega)]
 by_cases e : i = 0
 ·rw [if_pos e]
  have h2 := he.rise 0 (j * per) (Nat.mul_pos (by omega) hp) h1
  have h3 := (he.u 0).1.1
  omega
 ·rw [if_neg e]
  exact he.rise _ _ ((Nat.mul_lt_mul_right hp).2 hij) h1
theorem RowP.le (h : RowP lv per l R) (hp : 2 <= per) {n : Nat} (hn : l.length <= 2 * n) (h1 : 1 <= n) : R.length <= n := by
 rcases Nat.lt_or_ge n R.length with e | e
 ·have h2 := (h.ln n (by omega)).1 e
  have h3 : n * 2 <= n * per := Nat.mul_le_mul_left n hp
  omega
 ·exact e
/-! . -/
theorem parG_len (R : List (Nat × Nd)) (lag : Nat) (h : 0 < R.length) : (parG R lag).length = max 1 (R.length - lag) /\ (parG R lag).length <= R.length := by
 have e := parK_len R (pcG R lag) (by unfold pcG;omega)
 rw [parG_eq,e]
 unfold pcG
 omega
theorem parG_get (R : List (Nat × Nd)) (lag : Nat) {i : Nat} (hi : i < (parG R lag).length) : ∃ x,R[i]? = some x /\ eK (parG R lag) i = x.2.lo /\ eP (parG R lag) i = (x.1 : Int) := by
 have hi2 := hi
 unfold parG at hi2
 rw [List.length_map,List.length_take] at hi2
 have hR : i < R.length := by omega
 refine ⟨R[i],List.getElem?_eq_getElem hR,?_,?_⟩
 ·unfold eK parG
  rw [List.getD_eq_getElem?_getD,List.getElem?_map,List.getElem?_take_of_lt (by omega),List.getElem?_eq_getElem hR];rfl
 ·unfold eP parG
  rw [List.getD_eq_getElem?_getD,List.getElem?_map,List.getElem?_take_of_lt (by omega),List.getElem?_eq_getElem hR];rfl
theorem RowP.ent (h : RowP lv per l R) (he : EntOk l) (hp : 1 <= per) (hw : ∀ x ∈ R,x.2.Wf /\ x.1 ≠ 0 /\ x.1 + 192 <= 1000000) (lag : Nat) : EntOk (parG R lag) := by
 refine ⟨?_,fun i j hij hj => ?_,fun i hi => ?_⟩
 ·rw [parG_eq]
  exact parK_u (Nat.le_refl 1000000) hw _
 ·obtain ⟨x,h1,h2,_⟩ := parG_get R lag (show i < _ by omega)
  obtain ⟨y,h3,h4,_⟩ := parG_get R lag hj
  rw [h2,h4]
  exact h.lo_lt he hp hij h1 h3
 ·obtain ⟨x,h1,_,h2⟩ := parG_get R lag hi
  rw [h2]
  have := (hw x (List.mem_of_getElem? h1)).2.1
  omega
end
/-! . -/
structure RowQ2 (d : AD) (per lag : Nat) (l0 : List (Int × Int)) (L : Nat) (R : List (Nat × Nd)) (l : List (Int × Int)) : Prop where
 p : RowP L per l R
 e : EntOk l
 nd : (R.map (·.1)).Nodup
 w : ∀ x ∈ R,x.2.Wf /\ x.1 ≠ 0 /\ x.1 + 192 <= 1000000 /\ x.1 % 64 = 0
 z : L = 0 -> l = l0
 s : ∀ M,L = M + 1 -> ∃ R',d.lv[M]? = some R' /\ l = parG R' lag /\ 2 <= l.length
structure LvI (d : AD) (per lag : Nat) (l0 : List (Int × Int)) (kd cn : Nat -> Nat) : Prop where
 n : ArN d kd cn
 rw : ∀ L R,d.lv[L]? = some R -> ∃ l,RowQ2 d per lag l0 L R l
theorem levelsA_st {per lag : Nat} {l0 : List (Int × Int)} (hp : 1 <= per) : ∀ (f lv : Nat) {l : List (Int × Int)} {d d' : AD} {kd cn : Nat -> Nat},LvI d per lag l0 kd cn -> d.lv.length = lv -> lv <= 15 -> EntOk l -> (lv = 0 -> l = l0) →
  (∀ M,lv = M + 1 -> ∃ R',d.lv[M]? = some R' /\ l = parG R' lag /\ 2 <= l.length) -> levelsA per lag f lv l d = some d' →
  ∃ kd' cn',LvI d' per lag l0 kd' cn' /\ 0 < d'.lv.length /\ d'.lv.length <= 16 /\ d'.slabs = d.slabs /\ ∀ i,i < 128 -> chunk d'.L i = chunk d.L i
 | 0,lv,l,d,d',kd,cn,_,_,_,_,_,_,h => by cases h
 | f + 1,lv,l,d,d',kd,cn,hI,hn,hlv,he,hz,hs,h => by
  unfold levelsA at h
  cases hl : levelA d lv per l with
  | none => rw [hl] at h;cases h
  | some d1 =>
   rw [hl] at h
   simp only [] at h
   obtain ⟨kd1,cn1,R,q1,q2,q3,⟨d0,R0,q4,q5⟩,q6,q7,q8⟩ := levelA_st hlv he.u hI.n hl
   have hg : d1.lv.getD lv [] = R := by
    rw [q2,List.getD_eq_getElem?_getD,List.getElem?_append_right (by omega),hn,Nat.sub_self];rfl
   have hlen : d1.lv.length = lv + 1 := by rw [q2,List.length_append,hn];rfl
   have hold : ∀ M R',d.lv[M]? = some R' -> d1.lv[M]? = some R' := fun M R' hM => by
    rw [q2,List.getElem?_append_left (List.getElem?_eq_some_iff.1 hM).1];exact hM
   have hR : RowP lv per l R := by rw [q5];exact rowP_of hp q4
   have h1 : LvI d1 per lag l0 kd1 cn1 := by
    refine ⟨q1,fun L R2 hL => ?_⟩
    rcases Nat.lt_or_ge L lv with e | e
    ·have hL2 : d.lv[L]? = some R2 := by rwa [q2,List.getElem?_append_left (by omega)] at hL
     obtain ⟨l2,g⟩ := hI.rw L R2 hL2
     exact ⟨l2,g.p,g.e,g.nd,g.w,g.z,fun M hM => by obtain ⟨R',a,b⟩ := g.s M hM;exact ⟨R',hold M R' a,b⟩⟩
    ·have hlt := (List.getElem?_eq_some_iff.1 hL).1
     obtain rfl : L = lv := by omega
     have e2 : R2 = R := by rw [<- hg,List.getD_eq_getElem?_getD,hL];rfl
     subst e2
     exact ⟨l,hR,he,q6,q7,hz,fun M hM => by obtain ⟨R',a,b⟩ := hs M hM;exact ⟨R',hold M R' a,b⟩⟩
   rw [hg] at h
   by_cases e1 : R.length = 1 ∨ lv = 15
   ·rw [if_pos e1] at h
    obtain rfl : d1 = d' := Option.some.inj h
    exact ⟨kd1,cn1,h1,by omega,by omega,q3,q8⟩
   ·rw [if_neg e1] at h
    have hRn : d1.lv[lv]? = some R := by rw [q2,List.getElem?_append_right (by omega),hn,Nat.sub_self];rfl
    by_cases e2 : (parG R lag).length = 1
    ·rw [if_pos e2] at h
     obtain rfl : d1 = d' := Option.some.inj h
     exact ⟨kd1,cn1,h1,by omega,by omega,q3,q8⟩
    ·rw [if_neg e2] at h
     have hpl := (parG_len R lag hR.ne).1
     obtain ⟨kd2,cn2,r1,r2,r3,r4,r5⟩ := levelsA_st hp f (lv + 1) h1 hlen (by omega) (hR.ent he hp (fun x hx => ⟨(q7 x hx).1,(q7 x hx).2.1,(q7 x hx).2.2.1⟩) lag) (fun e => by omega)
      (fun M hM => ⟨R,by rw [show M = lv by omega];exact hRn,rfl,by omega⟩) h
     exact ⟨kd2,cn2,r1,r2,r3,r4.trans q3,fun i hi => (r5 i hi).trans (q8 i hi)⟩
/-! . -/
theorem arena1_st {slabs : Nat} (h1 : 1 <= slabs) (h : slabs <= 16) : ArI (arena1 slabs) (fun _ => 0) (fun _ => 0) := by
 have hz : ∀ i,chunk (List.replicate (1024 * (slabs + 1)) 0) i = 0 := fun i => by
  unfold chunk
  rw [List.drop_replicate,List.take_replicate,wd_zero]
 have hl : (List.replicate (1024 * (slabs + 1)) (0 : UInt8)).length = 1024 * (slabs + 1) := List.length_replicate
 have hch : ∀ i,128 <= i -> chunk (arena1 slabs).L i = 0 := fun i hi => by
  have e : (arena1 slabs).L = putAt (putAt (putAt (List.replicate (1024 * (slabs + 1)) 0) (8 * 0) 5929342154728227142) (8 * 1) (1024 * (slabs + 1) : Nat)) (8 * 3) (18446744073709551615 - (1024 * (slabs + 1) : Nat)) := rfl
  have l1 := putAt_len (L := List.replicate (1024 * (slabs + 1)) (0 : UInt8)) (a := 8 * 0) 5929342154728227142 (by omega)
  have l2 := putAt_len (a := 8 * 1) ((1024 * (slabs + 1) : Nat) : Int) (L := putAt (List.replicate (1024 * (slabs + 1)) 0) (8 * 0) 5929342154728227142) (by omega)
  rw [e,chunk_put (by omega) (by omega) (by omega),if_neg (by omega),chunk_put (by omega) (by omega) (by omega),if_neg (by omega),chunk_put (by omega) (by decide) (by decide),if_neg (by omega)]
  exact hz i
 refine ⟨?_,fun s h2 h3 => hch _ (by omega),fun s h2 h3 => (hch _ (by omega)),fun _ _ => ⟨rfl,rfl⟩,rfl,fun _ => .inl ⟨rfl,rfl⟩,fun e => absurd rfl e,fun e => absurd rfl e⟩
 refine ⟨?_,h,Nat.zero_le _,Nat.le_refl _,Nat.le_refl _,Nat.zero_le _,Nat.zero_le _⟩
 have l1 := putAt_len (L := List.replicate (1024 * (slabs + 1)) (0 : UInt8)) (a := 0) 5929342154728227142 (by omega)
 have l2 := putAt_len (a := 8) ((1024 * (slabs + 1) : Nat) : Int) (L := putAt (List.replicate (1024 * (slabs + 1)) 0) 0 5929342154728227142) (by omega)
 have l3 := putAt_len (a := 24) (18446744073709551615 - (1024 * (slabs + 1) : Nat)) (L := putAt (putAt (List.replicate (1024 * (slabs + 1)) 0) 0 5929342154728227142) 8 ((1024 * (slabs + 1) : Nat) : Int)) (by omega)
 exact l3.trans (l2.trans (l1.trans hl))
structure Built (d : AD) (slabs per lag : Nat) (keys : List Int) (l0 : List (Int × Int)) (kd cn : Nat -> Nat) : Prop where
 i : LvI d per lag l0 kd cn
 ne : 0 < d.lv.length
 le : d.lv.length <= 16
 sl : d.slabs = slabs
 keys : l0.map (·.1) = keys
 root : chunk d.L 2 = (topA d : Int)
theorem ent_vals {keys : List Int} {l0 : List (Int × Int)} (hk : ∀ x ∈ keys,0 <= x /\ x <= 18446744073709551615) (hr : keys.Pairwise (· < ·)) (h1 : l0.map (·.1) = keys) (h2 : ∀ x ∈ l0,0 < x.2 /\ x.2 <= 1000000) : EntOk l0 := by
 have hg : ∀ i (h : i < l0.length),l0.getD i (0,0) = l0[i] := fun i h => by rw [List.getD_eq_getElem?_getD,List.getElem?_eq_getElem h];rfl
 refine ⟨U64E.of (fun i hi => ?_),fun i j hij hj => ?_,fun i hi => ?_⟩
 ·unfold eK eP
  rw [hg i hi]
  have h3 := h2 _ (List.getElem_mem hi)
  have h4 := hk l0[i].1 (by rw [<- h1];exact List.mem_map.2 ⟨_,List.getElem_mem hi,rfl⟩)
  exact ⟨h4,by omega,by omega⟩
 ·unfold eK
  rw [hg i (by omega),hg j hj]
  rw [<- h1,List.pairwise_map] at hr
  exact List.pairwise_iff_getElem.1 hr i j (by omega) hj hij
 ·unfold eP
  rw [hg i hi]
  have h3 := h2 _ (List.getElem_mem hi)
  omega
theorem buildA_st {slabs per lag : Nat} {keys : List Int} (h1 : 1 <= slabs) (h : slabs <= 16) (hp : 1 <= per) (hk : ∀ x ∈ keys,0 <= x /\ x <= 18446744073709551615) (hr : keys.Pairwise (· < ·)) {d : AD} (hb : buildA slabs keys per lag = some d) :
  ∃ l0 kd cn,Built d slabs per lag keys l0 kd cn := by
 unfold buildA at hb
 cases hv : valsA keys (arena1 slabs) with
 | none => rw [hv] at hb;cases hb
 | some r =>
  obtain ⟨d1,l0⟩ := r
  rw [hv] at hb
  simp only [] at hb
  obtain ⟨d2,h2,rfl⟩ := Option.map_eq_some_iff.1 hb
  obtain ⟨kd1,cn1,q1,q2,q3,q4,q5⟩ := valsA_st keys hk (arena1_st h1 h) hv
  have q3' : d1.lv = [] := q3
  have hE := ent_vals hk hr q4 q5
  obtain ⟨kd,cn,r1,r2,r3,r4,r5⟩ := levelsA_st hp 16 0 (l0 := l0) ⟨⟨q1,fun R hR => by rw [q3'] at hR;cases hR⟩,fun L R hL => by rw [q3'] at hL;simp at hL⟩ (by rw [q3'];rfl) (by decide) hE (fun _ => rfl) (fun M hM => by omega) h2
  have hs := r4.trans q2
  have hlen := r1.n.i.ok.len
  have hT : (topA d2 : Int) <= 1000000 := by
   unfold topA
   obtain ⟨R,hR⟩ : ∃ R,d2.lv[d2.lv.length - 1]? = some R := ⟨_,List.getElem?_eq_getElem (by omega)⟩
   obtain ⟨l,g⟩ := r1.rw _ R hR
   have hgd : d2.lv.getD (d2.lv.length - 1) [] = R := by rw [List.getD_eq_getElem?_getD,hR];rfl
   have h0 := List.getElem?_eq_getElem g.p.ne
   have hg0 : R.getD 0 (0,nd0) = R[0]'g.p.ne := by rw [List.getD_eq_getElem?_getD,h0];rfl
   rw [hgd,hg0]
   have := (g.w _ (List.mem_of_getElem? h0)).2.2.1
   omega
  have hch : ∀ i,chunk (putAt d2.L 16 (topA d2)) i = if i = 2 then (topA d2 : Int) else chunk d2.L i := fun i => by
   rw [show 16 = 8 * 2 by rfl]
   exact chunk_put (by omega) (by omega) (by omega) i
  refine ⟨l0,kd,cn,⟨⟨⟨r1.n.i.body (putAt_len _ (by omega)) (fun i h3 h4 => by rw [hch,if_neg (by omega)]),fun R hR x hx => ?_⟩,fun L R hL => ?_⟩,r2,r3,hs,q4,?_⟩⟩
  ·obtain ⟨g1,g2⟩ := r1.n.st R hR x hx
   refine ⟨g1,fun q hq => ?_⟩
   obtain ⟨s,j,e1,e2,_⟩ := r1.n.i.slot g1
   show chunk (putAt d2.L 16 _) _ = _
   rw [hch,if_neg (by omega)]
   exact g2 q hq
  ·obtain ⟨l,g⟩ := r1.rw L R hL
   exact ⟨l,g.p,g.e,g.nd,g.w,g.z,g.s⟩
  ·show chunk (putAt d2.L 16 _) 2 = _
   rw [hch,if_pos rfl]
   rfl
end Go.Proofs.YtodgfbjjjgohgaaGreat
namespace Go.Proofs.YtodgfbjjjgohgaaGreat
open Go.RowKit
set_option linter.unusedVariables false

/-! . -/
theorem insR_rise {out : List Int} (h : out.Pairwise (· < ·)) (x : Int) : (insR out x).Pairwise (· < ·) := by
 unfold insR
 have hle := posR_le out x
 have hg : ∀ i (hi : i < out.length),out.getD i 0 = out[i] := fun i hi => by rw [List.getD_eq_getElem?_getD,List.getElem?_eq_getElem hi];rfl
 split
 ·exact h
 ·rename_i hne
  have hpw := List.pairwise_iff_getElem.1 h
  have h1 : ∀ y ∈ out.take (posR out x),y < x := fun y hy => by
   obtain ⟨j,hj,rfl⟩ := List.mem_iff_getElem.1 hy
   rw [List.length_take] at hj
   rw [List.getElem_take]
   have := posR_lt (out := out) (x := x) (j := j) (by omega)
   rw [hg j (by omega)] at this
   exact this
  have h2 : ∀ y ∈ out.drop (posR out x),x < y := fun y hy => by
   obtain ⟨j,hj,rfl⟩ := List.mem_iff_getElem.1 hy
   rw [List.length_drop] at hj
   rw [List.getElem_drop]
   have hp : posR out x < out.length := by omega
   have h3 := posR_ge hp
   have h4 : ¬ out.getD (posR out x) 0 = x := fun e => hne ⟨hp,e⟩
   rw [hg _ hp] at h3 h4
   rcases Nat.eq_zero_or_pos j with e | e
   ·subst e;show x < out[posR out x + 0];simp only [Nat.add_zero];omega
   ·have := hpw (posR out x) (posR out x + j) hp (by omega) (by omega)
    omega
  rw [List.append_assoc,List.pairwise_append]
  refine ⟨h.sublist (List.take_sublist _ _),?_,?_⟩
  ·rw [List.singleton_append,List.pairwise_cons]
   exact ⟨h2,h.sublist (List.drop_sublist _ _)⟩
  ·intro a ha b hb
   rcases List.mem_cons.1 hb with rfl | hb
   ·exact h1 a ha
   ·have := h1 a ha;have := h2 b hb;omega
theorem risR_rise {most : Int} : ∀ (l out : List Int),out.Pairwise (· < ·) -> (risR most out l).Pairwise (· < ·)
 | [],out,h => by unfold risR;exact h
 | x :: l,out,h => by
  unfold risR
  split
  ·exact risR_rise l _ (insR_rise h x)
  ·exact h
/-! . -/
def loK (R : List (Nat × Nd)) (i : Nat) : Int := (R.getD i (0,nd0)).2.lo
def ofK (R : List (Nat × Nd)) (key : Int) : Nat -> Nat
 | 0 => 0
 | n + 1 => if loK R n <= key then n else ofK R key n
theorem loK_get {R : List (Nat × Nd)} {i : Nat} {x : Nat × Nd} (h : R[i]? = some x) : loK R i = x.2.lo := by
 unfold loK;rw [List.getD_eq_getElem?_getD,h];rfl
theorem ofK_spec (R : List (Nat × Nd)) (key : Int) : ∀ n,0 < n -> ofK R key n < n /\ (ofK R key n = 0 ∨ loK R (ofK R key n) <= key) /\ ∀ i,ofK R key n < i -> i < n -> key < loK R i
 | 0,h => by cases h
 | n + 1,_ => by
  unfold ofK
  by_cases e : loK R n <= key
  ·rw [if_pos e]
   exact ⟨by omega,.inr e,fun i h1 h2 => by omega⟩
  ·rw [if_neg e]
   rcases Nat.eq_zero_or_pos n with e0 | e0
   ·subst e0
    exact ⟨by simp [ofK],.inl rfl,fun i h1 h2 => by simp [ofK] at h1;omega⟩
   ·obtain ⟨h1,h2,h3⟩ := ofK_spec R key n e0
    refine ⟨by omega,h2,fun i h4 h5 => ?_⟩
    by_cases hi : i = n
    ·subst hi;omega
    ·exact h3 i h4 (by omega)
theorem lastF_specK (t : Nat -> Bool) : ∀ m,(∀ i,i < m -> t i = true -> (i : Int) <= lastF t m) /\ (0 <= lastF t m -> ∃ j : Nat,lastF t m = j /\ j < m /\ t j = true)
 | 0 => ⟨fun i hi => by omega,fun h => by simp [lastF] at h⟩
 | m + 1 => by
  obtain ⟨h1,h2⟩ := lastF_specK t m
  unfold lastF
  by_cases hm : t m = true
  ·rw [if_pos hm]
   exact ⟨fun i hi _ => by omega,fun _ => ⟨m,rfl,by omega,hm⟩⟩
  ·rw [if_neg hm]
   refine ⟨fun i hi ht => ?_,fun h => ?_⟩
   ·rcases Nat.lt_succ_iff_lt_or_eq.1 hi with h | h
    ·exact h1 i h ht
    ·subst h;exact absurd ht hm
   ·obtain ⟨j,e,hj,ht⟩ := h2 h
    exact ⟨j,e,by omega,ht⟩
theorem len_ofK {m : Nd} {c : Nat} (h8 : c <= 8) (hn : ∀ j,j < c -> m.p j ≠ 0) (hf : c < 8 -> m.p c = 0) : m.len = c := by
 rcases Nat.lt_trichotomy m.len c with h | h | h
 ·exact absurd (Nd.p_len m (by omega)) (hn _ h)
 ·exact h
 ·exact absurd (hf (by have := m.len_le;omega)) (Nd.p_lt m c h)
def Nd.child (n : Nd) (key : Int) : Int := if 0 <= n.last key then n.p (n.last key).toNat else n.fi
/-! . -/
def rowK (d : AD) (L : Nat) : List (Nat × Nd) := d.lv.getD L []
theorem rowK_get {d : AD} {L : Nat} {R : List (Nat × Nd)} (h : d.lv[L]? = some R) : rowK d L = R := by unfold rowK;rw [List.getD_eq_getElem?_getD,h];rfl
def ofA (d : AD) (key : Int) (L : Nat) : Nat := ofK (rowK d L) key (rowK d L).length
def stA (d : AD) (per : Nat) (key : Int) (L : Nat) : Nat :=
 if L + 1 < d.lv.length then ofA d key (L + 1) * per + (((rowK d (L + 1)).getD (ofA d key (L + 1)) (0,nd0)).2.last key + 1).toNat else 0
structure PathP (rows : List (List (Nat × Nd))) (key : Int) (of st : Nat -> Nat) : Prop where
 ne : 0 < rows.length
 lt : ∀ L R,rows[L]? = some R -> of L < R.length /\ st L <= of L
 top : ∀ L,L + 1 = rows.length -> st L = 0
 hop : ∀ L R i y,rows[L]? = some R -> R[i + 1]? = some y -> (y.2.lo <= key ↔ i < of L)
 child : ∀ L R Rb x y,rows[L + 1]? = some R -> rows[L]? = some Rb -> R[of (L + 1)]? = some x -> Rb[st L]? = some y -> x.2.child key = (y.1 : Int)
structure ChP (l : List (Int × Int)) (per fr : Nat) (n : Nd) (key : Int) (t : Nat) : Prop where
 m : fr + t < l.length /\ t < per
 e : n.child key = eP l (fr + t)
 up : 0 < t -> eK l (fr + t) <= key
 lo : ∀ u,t < u -> u < per -> fr + u < l.length -> key < eK l (fr + u)
theorem child_st {per lag : Nat} {l0 : List (Int × Int)} {kd cn : Nat -> Nat} {d : AD} (hI : LvI d per lag l0 kd cn) (hp : 2 <= per) (hp8 : per <= 8) {L : Nat} {R : List (Nat × Nd)} (hR : d.lv[L + 1]? = some R) {i : Nat} {x : Nat × Nd} (hx : R[i]? = some x) (key : Int) :
  ∃ Rb,d.lv[L]? = some Rb /\ ChP (parG Rb lag) per (i * per) x.2 key (x.2.last key + 1).toNat /\ x.2.len + 1 = min per ((parG Rb lag).length - i * per) /\ x.2.fi = eP (parG Rb lag) (i * per) /\ (∀ j,j < x.2.len -> x.2.k j = eK (parG Rb lag) (i * per + j + 1) /\ x.2.p j = eP (parG Rb lag) (i * per + j + 1)) /\ i * per < (parG Rb lag).length := by
 obtain ⟨l,g⟩ := hI.rw _ _ hR
 obtain ⟨Rb,hRb,rfl,h2⟩ := g.s L rfl
 obtain ⟨lb,gb⟩ := hI.rw _ _ hRb
 obtain ⟨l,hl⟩ : ∃ l,parG Rb lag = l := ⟨_,rfl⟩
 have hentK := g.e.ptr
 have hget : ∀ j,j < l.length -> ∃ z,Rb[j]? = some z /\ eP l j = (z.1 : Int) := fun j hj => by
  rw [<- hl] at hj ⊢
  obtain ⟨z,a,_,b⟩ := parG_get Rb lag hj
  exact ⟨z,a,b⟩
 rw [hl] at g h2 hentK
 refine ⟨Rb,hRb,?_⟩
 rw [hl]
 have hfr : i * per < l.length := by
  rcases Nat.eq_zero_or_pos i with e | e
  ·subst e;rw [Nat.zero_mul];omega
  ·exact (g.p.ln i e).1 (List.getElem?_eq_some_iff.1 hx).1
 obtain ⟨fr,hfe⟩ : ∃ fr,i * per = fr := ⟨_,rfl⟩
 have hn := g.p.nd i x hx
 rw [hfe] at hn hfr ⊢
 have hk : ∀ j,x.2.k j = if 1 + j < per then eK l (fr + j + 1) else 0 := fun j => by
  rw [hn]
  show eK ((ownG l per fr).drop 1) j = _
  rw [eK_drop,ownG_k,show fr + (1 + j) = fr + j + 1 by omega]
 have hpj : ∀ j,x.2.p j = if 1 + j < per then eP l (fr + j + 1) else 0 := fun j => by
  rw [hn]
  show eP ((ownG l per fr).drop 1) j = _
  rw [eP_drop,ownG_p,show fr + (1 + j) = fr + j + 1 by omega]
 have hfi : x.2.fi = eP l fr := by
  rw [hn]
  show eP (ownG l per fr) 0 = _
  rw [ownG_p,if_pos (by omega),Nat.add_zero]
 have hbeyond : ∀ j,l.length <= j -> eP l j = 0 := fun j hj => by
  unfold eP;rw [List.getD_eq_getElem?_getD,List.getElem?_eq_none hj];rfl
 obtain ⟨m,hm⟩ : ∃ m,min per (l.length - fr) = m + 1 := ⟨min per (l.length - fr) - 1,by omega⟩
 have hlen : x.2.len = m := len_ofK (by omega) (fun j hj => by rw [hpj,if_pos (by omega)];exact hentK _ (by omega)) (fun _ => by
  rw [hpj]
  by_cases e : 1 + m < per
  ·rw [if_pos e];exact hbeyond _ (by omega)
  ·rw [if_neg e])
 have hok : ∀ j,j < m -> x.2.ok j = true := fun j hj => by
  have hne : ∀ u,u + 1 < l.length -> eP l (u + 1) ≠ eP l u := fun u hu e => by
   obtain ⟨z1,a1,b1⟩ := hget (u + 1) hu
   obtain ⟨z2,a2,b2⟩ := hget u (by omega)
   rw [b1,b2] at e
   have hz : z1.1 = z2.1 := by omega
   have n1 : (Rb.map (·.1))[u + 1]? = some z1.1 := by rw [List.getElem?_map,a1];rfl
   have n2 : (Rb.map (·.1))[u]? = some z2.1 := by rw [List.getElem?_map,a2];rfl
   have hnd := List.pairwise_iff_getElem.1 gb.nd u (u + 1) (List.getElem?_eq_some_iff.1 n2).1 (List.getElem?_eq_some_iff.1 n1).1 (by omega)
   rw [(List.getElem?_eq_some_iff.1 n2).2,(List.getElem?_eq_some_iff.1 n1).2] at hnd
   exact hnd hz.symm
  unfold Nd.ok
  rw [bne_iff_ne]
  cases j with
  | zero =>
   show x.2.p 0 ≠ x.2.fi
   rw [hpj,hfi,if_pos (by omega)]
   exact hne fr (by omega)
  | succ j =>
   show x.2.p (j + 1) ≠ x.2.p j
   rw [hpj,hpj,if_pos (by omega),if_pos (by omega)]
   exact hne (fr + j + 1) (by omega)
 obtain ⟨s1,s2⟩ := lastF_specK (fun j => x.2.ok j && decide (x.2.k j <= key)) x.2.len
 have hlast : lastF (fun j => x.2.ok j && decide (x.2.k j <= key)) x.2.len = x.2.last key := rfl
 rw [hlast,hlen] at s1 s2
 clear hlast
 have hg := last_ge x.2 key
 rw [hlen] at hg
 have hch : x.2.child key = if 0 <= x.2.last key then x.2.p (x.2.last key).toNat else x.2.fi := rfl
 obtain ⟨la,hla⟩ : ∃ la,x.2.last key = la := ⟨_,rfl⟩
 rw [hla] at s1 s2 hg hch ⊢
 rw [hlen]
 rw [hfi] at hch ⊢
 have HS2 := Lib.hid s2
 clear hn hfi hla hlen s2
 refine ⟨⟨by clear hch;omega,?_,fun ht => ?_,fun u h3 h4 h5 => ?_⟩,by rw [hm],rfl,fun j hj => ?_,hfr⟩
 ·rw [hch]
  by_cases e : 0 <= la
  ·rw [if_pos e,hpj,if_pos (by omega)]
   congr 1;omega
  ·rw [if_neg e]
   congr 1;omega
 ·clear hch
  obtain ⟨j,e,hj,ht2⟩ := HS2.out (by omega)
  simp only [Bool.and_eq_true,decide_eq_true_eq] at ht2
  have h6 := ht2.2
  rw [hk,if_pos (by omega)] at h6
  rw [show fr + (la + 1).toNat = fr + j + 1 by omega]
  exact h6
 ·clear hch
  obtain ⟨j,rfl⟩ : ∃ j,u = j + 1 := ⟨u - 1,by omega⟩
  have h6 := s1 j (by omega)
  rw [hok j (by omega),Bool.true_and,decide_eq_true_eq,hk,if_pos (by omega)] at h6
  rw [show fr + (j + 1) = fr + j + 1 by omega]
  by_cases e : eK l (fr + j + 1) <= key
  ·have := h6 e;omega
  ·omega
 ·rw [hk,hpj,if_pos (by omega),if_pos (by omega)]
  exact ⟨rfl,rfl⟩
theorem ofA_lt {per lag : Nat} {l0 : List (Int × Int)} {kd cn : Nat -> Nat} {d : AD} (hI : LvI d per lag l0 kd cn) (key : Int) {L : Nat} {R : List (Nat × Nd)} (hR : d.lv[L]? = some R) : ofA d key L < R.length /\ (ofA d key L = 0 ∨ loK R (ofA d key L) <= key) /\ ∀ i,ofA d key L < i -> i < R.length -> key < loK R i := by
 obtain ⟨l,g⟩ := hI.rw _ _ hR
 have := ofK_spec R key R.length g.p.ne
 unfold ofA
 rw [rowK_get hR]
 exact this
theorem path_st {per lag : Nat} {l0 : List (Int × Int)} {kd cn : Nat -> Nat} {d : AD} (hI : LvI d per lag l0 kd cn) (hp : 2 <= per) (hp8 : per <= 8) (hne : 0 < d.lv.length) (key : Int) (hk : 0 <= key) : PathP d.lv key (ofA d key) (stA d per key) := by
 have hst : ∀ L R Rb,d.lv[L + 1]? = some R -> d.lv[L]? = some Rb -> ∀ x,R[ofA d key (L + 1)]? = some x -> ∃ t,stA d per key L = ofA d key (L + 1) * per + t /\ ChP (parG Rb lag) per (ofA d key (L + 1) * per) x.2 key t := by
  intro L R Rb hR hRb x hx
  obtain ⟨Rb',hRb',hC,_⟩ := child_st hI hp hp8 hR hx key
  obtain rfl : Rb' = Rb := Option.some.inj (hRb'.symm.trans hRb)
  refine ⟨_,?_,hC⟩
  unfold stA
  have hg : (rowK d (L + 1)).getD (ofA d key (L + 1)) (0,nd0) = x := by rw [rowK_get hR,List.getD_eq_getElem?_getD,hx];rfl
  rw [if_pos (List.getElem?_eq_some_iff.1 hR).1,hg]
 refine ⟨hne,fun L R hR => ?_,fun L h => ?_,fun L R i y hR hy => ?_,fun L R Rb x y hR hRb hx hy => ?_⟩
 ·obtain ⟨h1,h2,h3⟩ := ofA_lt hI key hR
  refine ⟨h1,?_⟩
  by_cases e : L + 1 < d.lv.length
  ·obtain ⟨R2,hR2⟩ : ∃ R2,d.lv[L + 1]? = some R2 := ⟨_,List.getElem?_eq_getElem e⟩
   obtain ⟨o1,o2,o3⟩ := ofA_lt hI key hR2
   obtain ⟨x,hx⟩ : ∃ x,R2[ofA d key (L + 1)]? = some x := ⟨_,List.getElem?_eq_getElem o1⟩
   obtain ⟨t,e1,hC⟩ := hst L R2 R hR2 hR x hx
   obtain ⟨l2,g2⟩ := hI.rw _ _ hR2
   obtain ⟨Rb,hRb,hl2,h22⟩ := g2.s L rfl
   obtain rfl : Rb = R := Option.some.inj (hRb.symm.trans hR)
   obtain ⟨z,hz1,hz2,hz3⟩ := parG_get Rb lag hC.m.1
   have hzl := (List.getElem?_eq_some_iff.1 hz1).1
   rw [e1]
   rcases Nat.lt_or_ge (ofA d key L) (ofA d key (L + 1) * per + t) with h4 | h4
   ·have h5 := h3 _ h4 hzl
    rw [loK_get hz1,<- hz2] at h5
    rcases Nat.eq_zero_or_pos t with e2 | e2
    ·subst e2
     rw [Nat.add_zero] at h5 h4
     rcases o2 with o2 | o2
     ·rw [o2,Nat.zero_mul] at h4;omega
     ·rw [loK_get hx,g2.p.lo (by omega) hx] at o2
      by_cases e3 : ofA d key (L + 1) = 0
      ·rw [e3,Nat.zero_mul] at h4;omega
      ·rw [if_neg e3,hl2] at o2;omega
    ·have := hC.up e2;omega
   ·exact h4
  ·unfold stA;rw [if_neg e];exact Nat.zero_le _
 ·unfold stA;rw [if_neg (by omega)]
 ·obtain ⟨h1,h2,h3⟩ := ofA_lt hI key hR
  obtain ⟨l,g⟩ := hI.rw _ _ hR
  have hil := (List.getElem?_eq_some_iff.1 hy).1
  constructor
  ·intro h4
   rcases Nat.lt_or_ge i (ofA d key L) with h5 | h5
   ·exact h5
   ·have := h3 (i + 1) (by omega) hil
    rw [loK_get hy] at this
    omega
  ·intro h4
   obtain ⟨z,hz⟩ : ∃ z,R[ofA d key L]? = some z := ⟨_,List.getElem?_eq_getElem h1⟩
   have h5 : y.2.lo <= z.2.lo := by
    rcases Nat.lt_or_ge (i + 1) (ofA d key L) with h6 | h6
    ·have := g.p.lo_lt g.e (by omega) h6 hy hz;omega
    ·have e3 : ofA d key L = i + 1 := by omega
     rw [e3,hy] at hz
     obtain rfl : y = z := Option.some.inj hz
     exact Int.le_refl _
   rcases h2 with h2 | h2
   ·omega
   ·rw [loK_get hz] at h2;omega
 ·obtain ⟨t,e1,hC⟩ := hst L R Rb hR hRb x hx
  obtain ⟨z,hz1,hz2,hz3⟩ := parG_get Rb lag hC.m.1
  rw [hC.e,hz3]
  rw [e1,hz1] at hy
  obtain rfl : z = y := Option.some.inj hy
  rfl
end Go.Proofs.YtodgfbjjjgohgaaGreat
