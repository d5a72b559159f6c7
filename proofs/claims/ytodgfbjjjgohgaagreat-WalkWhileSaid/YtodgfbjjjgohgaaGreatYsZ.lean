/-
 THE LAW WalkWhile: a contract.
-/
import Derived.Test.YtodgfbjjjgohgaaGreatYrZ
namespace Go.Proofs.YtodgfbjjjgohgaaGreat
open Go.RowKit
attribute [local go_sem] Oper.semAt_some
set_option linter.unusedVariables false

theorem wpList_load_partg {ops : Array Oper} {rest : List Oper} {o : Oper} {a : Act} {w : World} {Q : Exit -> Act -> World -> Prop} (hw : Region.wanted o (yielded ops a.tmps) = true) (x : Operand) (ho : o.op = .load 46 x)
  (g off : Nat) (hx : a.eval x = .pointer (some ⟨g,off,none⟩)) (cs : Array Value) (hc : ∀ j v,cs[j]? = some v -> w.cell? ⟨g,off + j,none⟩ = some v)
  (hi : (Tryz.prog.info? 46).map (·.size) = some cs.size)
  (h : wpList Tryz.prog ops Q rest (a.put o.dst (.agg cs)) w) : wpList Tryz.prog ops Q (o :: rest) a w := by
 simp only [wpList,hw,if_true]
 exact .inl (wp_ld_part 46 x ho g off hx cs _ hc Tryz.underlying46 rfl hi h)
theorem wpList_eq_anyg {ops : Array Oper} {rest : List Oper} {a : Act} {w : World} {Q : Exit -> Act -> World -> Prop} (d : Option Tmp) (i j : Nat) (ty : TypeId) (pos : String) (aft : Array Edge) (g : Option (Nat × Bool)) (n m : Nd) (r : Bool)
  (q : ∀ w,(Op.equalIn 10000 46 (.agg (ndCells n)) (.agg (ndCells m))).run Tryz.prog w = .ok r w)
  (hw : Region.wanted ⟨d,.binOp .eql 46 (.tmp i) (.tmp j) 46,ty,pos,aft,g⟩ (yielded ops a.tmps) = true)
  (hx : a.tmps[i]?.getD undef = .agg (ndCells n)) (hy : a.tmps[j]?.getD undef = .agg (ndCells m)) (h : wpList Tryz.prog ops Q rest (a.put d (.bool r)) w) : wpList Tryz.prog ops Q (⟨d,.binOp .eql 46 (.tmp i) (.tmp j) 46,ty,pos,aft,g⟩ :: rest) a w := by
 simp only [wpList,hw,if_true]
 refine .inl ?_
 clear hw
 go_simp
 exact h
def WG (d : AD) (pr : Nat) (key : Int) (b : Nat) (ptr : Int) (B kb xb mb : Nat) (S0 : Nat -> Prop) (w0 : World) (ov : Bool) (τ i : Nat) (W : World) : Prop :=
 Keeps (ZG kb S0 B) w0 W /\ τ <= 3 /\ i <= 9999 /\ (ov = true -> EndP d.lv (ofA d key) (stA d pr key) (WtW d b ptr) (swV (memA d) b ptr) key 0 0 (τ : Int) (fun _ _ _ _ => True) B kb xb mb S0 τ W) ∧
  (ov = false -> ∃ U,StG2 d.lv (ofA d key) (stA d pr key) (WtW d b ptr) (swV (memA d) b ptr) key 0 0 200 (τ : Int) (fun _ _ _ _ => True) False W B U kb xb mb S0 i τ)
set_option maxRecDepth 100000 in
set_option maxHeartbeats 16000000 in
theorem walkwhile_v (w : World) (slabs per lag : Int) (A : Option Addr) (c : Nat) (l : List Int) (key which ptr : Int) (GA : Option Addr) (gc : Nat) (gs : List Int) (hr : Reads w w.heap.size 1 A l.length (l.map (Value.int .u64))) (hu : ∀ x ∈ l,0 <= x /\ x <= 18446744073709551615) (hk : 0 <= key)
  (hp : 0 <= ptr /\ ptr <= 18446744073709551615) (hrg : Reads w w.heap.size 1 GA gs.length (gs.map (Value.int .i64))) :
  Calls Tryz.prog 4 #[.agg (laidC slabs A l.length c per lag),.int .u64 key,.int .i64 which,.int .u64 ptr,.slice GA gs.length gc] w fun e w' => e = .returned (.bool true) /\ Below w.heap.size w w' := by
 have hb0 := Blk.new w (laidC slabs A l.length c per lag) 24
 have hB0 : Below w.heap.size w (w.alloc (.cells (laidC slabs A l.length c per lag) 24)) := (Below.refl _ w).alloc (Nat.le_refl _) _
 obtain ⟨bx,hbx⟩ : ∃ bx,w.heap.size = bx := ⟨_,rfl⟩
 rw [hbx] at hb0
 obtain ⟨w1,hw1⟩ : ∃ w1,w.alloc (.cells (laidC slabs A l.length c per lag) 24) = w1 := ⟨_,rfl⟩
 rw [hw1] at hb0 hB0
 have HW1 := Lib.hid hw1
 have HB1 := Lib.hid hB0
 have HLd := Lib.hid (show ∀ j v,(laidC slabs A l.length c per lag)[j]? = some v -> w1.cell? ⟨bx,0 + j,none⟩ = some v from fun j v hj => by rw [Nat.zero_add,hb0.cell];exact hj)
 have HInf := Lib.hid (show (Tryz.prog.info? 24).map (·.size) = some (laidC slabs A l.length c per lag).size from (show (Tryz.prog.info? 24).map (·.size) = some 4 by kernel_rfl))
 have HLay := Lib.hid (show Calls Tryz.prog 7 #[.agg (laidC slabs A l.length c per lag)] w1 fun e w' => LayQ w1 w' e l from
  (lay_v w1 A c slabs per lag l ((hr.below hB0).more hB0.size) hu).mono (fun e w' h => LayP.q hu h))
 have HKey := Lib.hid hk
 have HPt := Lib.hid hp
 obtain ⟨gl,hgl⟩ : ∃ gl,gs.length = gl := ⟨_,rfl⟩
 have HRg := Lib.hid ((hrg.below hB0).more hB0.size)
 have Hgl := Lib.hid hgl
 rw [hgl]
 clear hb0 hB0 hw1 hr hu hk hp hrg hgl
 go_enter Tryz.func4,Tryz.ntmps4
 go_upto_region 1 with (fail)
 try rw [hbx]
 rw [HW1.out]
 clear HW1
 go_wp2_with ((with_reducible refine wpList_load_part (o := ⟨some 28,_,_,_,_,_⟩) ?hg 24 (.tmp 5) ?ho bx 0 ?hx (laidC slabs A l.length c per lag) ?dd ?hc ?hu ?hd ?hi ?_);(case hg => rfl);(case ho => rfl);(case hx => rfl);(case hc => exact HLd.out);(case hu => exact Tryz.underlying24);(case hd => rfl);(case hi => exact HInf.out))
 refine HLay.out.mono ?_
 rintro e w2 ⟨hB2,rfl | ⟨d,sl,pr,lg,l0,kd,cn,ab,gb,cb,g,cap,rfl,h1,h2,h8,hBt,hA⟩⟩
 ·have HB2 := Lib.hid (HB1.out.trans (hB2.mono HB1.out.size))
  clear hB2 HLay HB1 HLd HInf HRg
  have HKn := Lib.hid (known_v w2)
  go_wp2_with (fail)
  refine HKn.out.mono ?_
  rintro e wk ⟨rfl,hBk⟩
  have HBf := Lib.hid (HB2.out.trans (hBk.mono HB2.out.size))
  clear hBk
  go_wp2_with (fail)
  go_ret
  exact ⟨rfl,HBf.out⟩
 ·have HB2 := Lib.hid (HB1.out.trans (hB2.mono HB1.out.size))
  have HRg := Lib.hid ((HRg.out.below hB2).more hB2.size)
  have HBt := Lib.hid hBt
  have HAr := Lib.hid hA
  have HP := Lib.hid (And.intro h1 (And.intro h2 h8))
  obtain ⟨nl,hnl⟩ : ∃ nl,d.lv.length = nl := ⟨_,rfl⟩
  have Hnl := Lib.hid hnl
  have c7 := hA.c7
  have hne := hBt.ne
  rw [hnl] at c7 hne
  obtain ⟨R,hR⟩ : ∃ R,d.lv[0]? = some R := ⟨_,List.getElem?_eq_getElem (by omega)⟩
  obtain ⟨rb,cr,hrc,hrow⟩ := hA.row 0 R hR
  obtain ⟨rn,hrn⟩ : ∃ rn,R.length = rn := ⟨_,rfl⟩
  have h2n := (ofA_lt hBt.i key hR).1
  rw [hrn] at hrc h2n
  have HR := Lib.hid (And.intro hR hrn)
  have HRw := Lib.hid hrow
  have hnl0 : (0 : Int) < (nl : Int) := by omega
  have H2 := Lib.hid (show 1 <= rn from by omega)
  clear hB2 HLay HB1 HLd HInf hBt hA h1 h2 h8 hnl hR hrn hrow hne h2n
  by_cases h6 : 60 < gl
  ·have q1 : decide (60 < gl) = true := decide_eq_true h6
   have q2 : decide (60 < (gl : Int)) = true := decide_eq_true (by omega)
   clear h6
   have HKn := Lib.hid (known_v w2)
   go_wp2_with (fail)
   refine HKn.out.mono ?_
   rintro e wk ⟨rfl,hBk⟩
   have HBf := Lib.hid (HB2.out.trans (hBk.mono HB2.out.size))
   clear hBk
   go_wp2_with (fail)
   go_ret
   exact ⟨rfl,HBf.out⟩
  ·have q1 : decide (60 < gl) = false := decide_eq_false h6
   have q2 : decide (60 < (gl : Int)) = false := decide_eq_false (by omega)
   have H6 := Lib.hid (show gl <= 60 from by omega)
   clear h6
   obtain ⟨ln,hln⟩ : ∃ ln,d.L.length = ln := ⟨_,rfl⟩
   have c0 := HAr.out.b0
   have HOn := Lib.hid (show Calls Tryz.prog 9 #[.slice (some ⟨gb,0,none⟩) ln cb,.int .i64 2] w2 fun e w' => OnP w2 w' e d.L sl from by
    rw [<- hln]
    refine on_v w2 gb cb d.L sl 2 ?_ HAr.out.cl HAr.out.gl HAr.out.by_ (by decide)
    have := HBt.out.i.n.i.img (by rw [HBt.out.sl];exact HP.out.1)
    rw [HBt.out.sl] at this
    exact this)
   rw [hln] at c0
   clear hln
   go_upto_region 4 with (fail)
   go_wp2_with (fail)
   refine HOn.out.mono ?_
   rintro e w3 ⟨xb,mb,S,rfl,hO⟩
   have HO := Lib.hid hO
   have HS2 := Lib.hid (show ∀ i,S i -> w2.heap.size <= i from hO.lo)
   have HB3 := Lib.hid hO.b
   have HA3 := Lib.hid (HAr.out.below hO.b)
   have d7 : w3.cell? ⟨ab,7,none⟩ = some (.slice (some ⟨g,0,none⟩) nl cap) := (hO.b.cell (p := ⟨ab,7,none⟩) HAr.out.lt.1).trans c7
   have dg : w3.cell? ⟨g,0,none⟩ = some (.slice (some ⟨rb,0,none⟩) rn cr) := (hO.b.cell (p := ⟨g,0,none⟩) HAr.out.lt.2).trans hrc
   clear hO HOn c0 q1 q2 c7 hrc
   obtain ⟨m1,hm1,hm2,hm3⟩ : ∃ m1 : Int,IntKind.u64.wrap (rn : Int) = m1 /\ 0 < m1 /\ m1 = (rn : Int) := by
    have h2 := H2.out
    have hrl := HBt.out.rowLe HP.out.2.1 (by have := risR_len (most := 40) l [] (by decide);omega) 0 R HR.out.1
    rw [HR.out.2,if_pos rfl] at hrl
    exact ⟨(rn : Int),IntWalk.u64_in (rn : Int) (by omega),by omega,rfl⟩
   obtain ⟨k,hk,hkl⟩ : ∃ k : Nat,wrap64 ((IntKind.u64.wrap which).tmod m1) = (k : Int) /\ k < rn := by
    have hrl := HBt.out.rowLe HP.out.2.1 (by have := risR_len (most := 40) l [] (by decide);omega) 0 R HR.out.1
    rw [HR.out.2,if_pos rfl] at hrl
    have h3 : 0 <= IntKind.u64.wrap which := by rw [IntKind.wrap_u64];omega
    have h4 := Int.tmod_nonneg m1 h3
    have h5 := Int.tmod_lt_of_pos (IntKind.u64.wrap which) hm2
    refine ⟨((IntKind.u64.wrap which).tmod m1).toNat,?_,by omega⟩
    rw [IntWalk.wrap64_in _ (by omega)]
    omega
   have hm0 : ¬ m1 = 0 := by omega
   clear hm3 hm2
   go_upto_region 9 with (fail)
   (try rw [hk])
   clear hm1 hm0
   have HKl := Lib.hid hkl
   clear hk hkl
   obtain ⟨xk,hxk⟩ : ∃ xk,R[k]? = some xk := ⟨_,List.getElem?_eq_getElem (by have := HKl.out;have := HR.out.2;omega)⟩
   have HXk := Lib.hid hxk
   have HAtk := Lib.hid (HBt.out.at HR.out.1 (List.mem_of_getElem? hxk))
   have hlt3 : rb < w3.heap.size := by have := HRw.out.lt;have := HB3.out.size;omega
   have e1k : w3.cell? ⟨rb,k * 22,none⟩ = some (.int .u64 (xk.1 : Int)) := by
    have := HRw.out.cell (k := 0) hxk (by decide)
    rw [Nat.add_zero] at this
    exact (HB3.out.cell (p := ⟨rb,k * 22,none⟩) HRw.out.lt).trans (this.trans rfl)
   have HEl := Lib.hid (show ∀ j v,(ndCells xk.2)[j]? = some v -> w3.cell? ⟨rb,k * 22 + 1 + j,none⟩ = some v from fun j v hj => by
    have hj21 : j < 21 := by have := (Array.getElem?_eq_some_iff.1 hj).1;rwa [ndCells_size] at this
    have := HRw.out.cell (k := 1 + j) hxk (by omega)
    rw [show k * 22 + (1 + j) = k * 22 + 1 + j by omega] at this
    exact (HB3.out.cell (p := ⟨rb,k * 22 + 1 + j,none⟩) HRw.out.lt).trans (this.trans ((atC_succ _ _ j).trans hj)))
   have b1 : (k : Int) < (rn : Int) := by have := HKl.out;omega
   have b2 : k < rn := HKl.out
   have HInN := Lib.hid (show (Tryz.prog.info? 46).map (·.size) = some (ndCells xk.2).size from by rw [ndCells_size];kernel_rfl)
   obtain ⟨xa,hxa⟩ : ∃ xa,(xk.1 : Int) = xa := ⟨_,rfl⟩
   have HXa := Lib.hid hxa
   rw [hxa] at e1k
   have hz := Blk.new w3 (ndCells nd0) 46
   have hzr := hz.row (ndCells xk.2)
   have kx : Below w3.heap.size w3 ((w3.alloc (.cells (ndCells nd0) 46)).setRow w3.heap.size (ndCells xk.2)) := below_setRow ((Below.refl _ w3).alloc (Nat.le_refl _) _) (Nat.le_refl _) _
   obtain ⟨eb,heb⟩ : ∃ eb,w3.heap.size = eb := ⟨_,rfl⟩
   rw [heb] at hz hzr
   have HEb := Lib.hid heb
   have HEb2 := Lib.hid heb
   have HZ := Lib.hid hz
   obtain ⟨w4,hw4⟩ : ∃ w4,(w3.alloc (.cells (ndCells nd0) 46)).setRow eb (ndCells xk.2) = w4 := ⟨_,rfl⟩
   have HW4 := Lib.hid hw4
   rw [heb,hw4] at kx
   rw [hw4] at hzr
   have HE4 := Lib.hid hzr
   have HK4 := Lib.hid (show Below w3.heap.size w3 w4 from by rw [heb];exact kx)
   have HMm := Lib.hid (show Calls Tryz.prog 14 #[.pointer (some ⟨xb,0,none⟩)] w3 fun e w' => e = .returned (.pointer (some ⟨mb,0,none⟩)) /\ w3 = w' from by
    obtain ⟨C,hx,hC⟩ := HO.out.x
    exact smem_v w3 xb C _ hx hC)
   clear hz hzr kx heb hw4 hxa hxk hlt3
   go_wp2_with (fail)
   refine HMm.out.mono ?_
   rintro e wq ⟨rfl,rfl⟩
   clear HMm
   go_upto_region 11 with (fail)
   go_step
   refine wpList_plain rfl (fun K hK => ?_)
   go_simp
   refine hK _ _ ?_
   clear hK K
   refine wpList_plain rfl (fun K hK => ?_)
   go_simp
   refine hK _ _ ?_
   clear hK K
   refine wpList_plain rfl (fun K hK => ?_)
   go_simp
   refine hK _ _ ?_
   clear hK K
   refine wpList_plain rfl (fun K hK => ?_)
   go_simp
   refine hK _ _ ?_
   clear hK K
   refine wpList_load_part (o := ⟨some 69,_,_,_,_,_⟩) rfl 46 (.tmp 68) rfl rb (k * 22 + 1) (ev_tmp (by simp)) (ndCells xk.2) _ HEl.out Tryz.underlying46 rfl HInN.out ?_
   go_upto_region 12 with (first
    | ((with_reducible refine wpList_alloc_ndAt (o := ⟨some 17,_,_,_,_,_⟩) rfl rfl eb ?hz ?_);(case hz => exact HEb.out))
    | ((with_reducible refine wpList_store_ndc (o := ⟨none,.store 46 (.tmp 17) (.tmp 69),_,_,_,_⟩) ?hgc (.tmp 17) (.tmp 69) ?hoc eb (ndCells xk.2) xk.2 nd0 ?hxc ?hyc ?hbc ?hmc ?_);(case hgc => rfl);(case hoc => rfl);(case hxc => exact ev_tmp (by simp [Act.put]));(case hyc => exact ev_tmp (by simp [Act.put]));(case hmc => rfl);(case hbc => exact HZ.out)))
   rw [HW4.out]
   clear HW4 HZ HEb d7 dg e1k HEl
   simp [Act.put]
   have HB4 := Lib.hid (show Below w2.heap.size w2 w4 from HB3.out.trans (HK4.out.mono HB3.out.size))
   have HBw4 := Lib.hid (HB2.out.trans (HB4.out.mono HB2.out.size))
   obtain ⟨p0,hp0⟩ : ∃ p0,xk.2.p 0 = p0 := ⟨_,rfl⟩
   have e13 : w4.cell? ⟨eb,13,none⟩ = some (.int .u64 p0) := by rw [<- hp0];exact (HE4.out.cell 13).trans rfl
   have HP0 := Lib.hid hp0
   clear hp0
   by_cases hz0 : p0 = 0
   ·have z1 : (p0 == 0) = true := beq_iff_eq.2 hz0
    clear hz0
    have HKn := Lib.hid (known_v w4)
    go_wp2_with (fail)
    refine HKn.out.mono ?_
    rintro e wk ⟨rfl,hBk⟩
    have HBf := Lib.hid (HBw4.out.trans (hBk.mono HBw4.out.size))
    clear hBk
    go_wp2_with (fail)
    go_ret
    exact ⟨rfl,HBf.out⟩
   ·have z1 : (p0 == 0) = false := beq_eq_false_iff_ne.2 hz0
    have HZ0 := Lib.hid hz0
    clear hz0
    by_cases hz2 : ptr = 0
    ·have z2 : (ptr == 0) = true := beq_iff_eq.2 hz2
     clear hz2
     have HKn := Lib.hid (known_v w4)
     go_wp2_with (fail)
     refine HKn.out.mono ?_
     rintro e wk ⟨rfl,hBk⟩
     have HBf := Lib.hid (HBw4.out.trans (hBk.mono HBw4.out.size))
     clear hBk
     go_wp2_with (fail)
     go_ret
     exact ⟨rfl,HBf.out⟩
    ·have z2 : (ptr == 0) = false := beq_eq_false_iff_ne.2 hz2
     have HZ2 := Lib.hid hz2
     clear hz2
     have hz := Blk.new w4 (ndCells nd0) 46
     have hzr := hz.row (ndCells xk.2)
     have kx : Below w4.heap.size w4 ((w4.alloc (.cells (ndCells nd0) 46)).setRow w4.heap.size (ndCells xk.2)) := below_setRow ((Below.refl _ w4).alloc (Nat.le_refl _) _) (Nat.le_refl _) _
     obtain ⟨nb,hnb⟩ : ∃ nb,w4.heap.size = nb := ⟨_,rfl⟩
     rw [hnb] at hz hzr
     have HNb := Lib.hid hnb
     have HNb2 := Lib.hid hnb
     have HZ := Lib.hid hz
     obtain ⟨w5,hw5⟩ : ∃ w5,(w4.alloc (.cells (ndCells nd0) 46)).setRow nb (ndCells xk.2) = w5 := ⟨_,rfl⟩
     have HW5 := Lib.hid hw5
     rw [hnb,hw5] at kx
     rw [hw5] at hzr
     have HN5 := Lib.hid hzr
     have HK5 := Lib.hid (show Below w4.heap.size w4 w5 from by rw [hnb];exact kx)
     have HE5 := Lib.hid (HE4.out.kept (Keeps.of_below' HK5.out) (fun e => e))
     have hsz5 : w5.heap.size = nb + 1 := by rw [<- hw5,setRow_size];simp [hnb]
     clear hz hzr kx hnb hw5
     go_upto_region 15 with (first
      | ((with_reducible refine wpList_load_ndg (o := ⟨some 79,_,_,_,_,_⟩) ?hg (.tmp 17) ?ho eb xk.2 ?hx ?hb ?_);(case hg => rfl);(case ho => rfl);(case hx => exact ev_tmp (by simp));(case hb => exact HE4.out))
      | ((with_reducible refine wpList_alloc_ndAt (o := ⟨some 18,_,_,_,_,_⟩) rfl rfl nb ?hz ?_);(case hz => exact HNb.out))
      | ((with_reducible refine wpList_store_ndc (o := ⟨none,.store 46 (.tmp 18) (.tmp 79),_,_,_,_⟩) ?hgc (.tmp 18) (.tmp 79) ?hoc nb (ndCells xk.2) xk.2 nd0 ?hxc ?hyc ?hbc ?hmc ?_);(case hgc => rfl);(case hoc => rfl);(case hxc => exact ev_tmp (by simp [Act.put]));(case hyc => exact ev_tmp (by simp [Act.put]));(case hmc => rfl);(case hbc => exact HZ.out)))
     rw [HW5.out]
     clear HW5 HZ HNb e13
     simp [Act.put]
     obtain ⟨a24,h24⟩ : ∃ a24 : Int,xa + 24 = a24 := ⟨_,rfl⟩
     obtain ⟨a72,h72⟩ : ∃ a72 : Int,xa + 72 = a72 := ⟨_,rfl⟩
     have hw24 : IntKind.u64.wrap (xa + 24) = a24 := by rw [IntWalk.u64_in _ (by have := HAtk.out.hi;have := HXa.out;omega)];exact h24
     have hw72 : IntKind.u64.wrap (xa + 72) = a72 := by rw [IntWalk.u64_in _ (by have := HAtk.out.hi;have := HXa.out;omega)];exact h72
     have H24 := Lib.hid (And.intro h24 h72)
     clear h24 h72
     have hz := Blk.new w5 (putC a24 1 a72 ptr a24 2) 56
     have hb6 := (Below.refl w5.heap.size w5).alloc (Nat.le_refl _) (.cells (putC a24 1 a72 ptr a24 2) 56)
     obtain ⟨pg,hpg⟩ : ∃ pg,w5.heap.size = pg := ⟨_,rfl⟩
     rw [hpg] at hz
     obtain ⟨w6,hw6⟩ : ∃ w6,w5.alloc (.cells (putC a24 1 a72 ptr a24 2) 56) = w6 := ⟨_,rfl⟩
     rw [hw6] at hz hb6
     have HW6 := Lib.hid hw6
     have HPg := Lib.hid hpg
     have HG6 := Lib.hid hz
     have HK6 := Lib.hid hb6
     have HS56 := Lib.hid (And.intro hsz5 hpg)
     clear hz hb6 hpg hw6 hsz5
     go_upto_region 16 with ((with_reducible refine wpList_bs_put (o := ⟨some 90,_,_,_,_,_⟩) ?hgb (.tmp 82) (.tmp 86) (.tmp 89) ?hob a24 1 a72 ptr a24 2 ?hxb ?hyb ?hzb pg ?hpb ?_);(case hgb => rfl);(case hob => rfl);(case hxb => exact ev_tmp (by simp));(case hyb => exact ev_tmp (by simp));(case hzb => exact ev_tmp (by simp));(case hpb => exact HPg.out))
     rw [HW6.out]
     clear HW6 HPg hw24 hw72
     try simp [Act.put]
     go_wp2_with (fail)
     refine (wnew_v (some ⟨xb,0,none⟩) 0 key 0 w6).mono ?_
     rintro e w7 ⟨rfl,hb7,hB7⟩
     obtain ⟨kb,hkb⟩ : ∃ kb,w6.heap.size = kb := ⟨_,rfl⟩
     rw [hkb] at hb7 ⊢
     have h40 : (risR 40 [] l).length <= 40 := by have := risR_len (most := 40) l [] (by decide);omega
     have hTr := tr_while HBt.out HP.out.2.1 HP.out.2.2 key HKey.out HR.out.1 HXk.out (ptr := ptr) (by rw [HP0.out];exact HZ0.out) HZ2.out HPt.out
     have HAd := Lib.hid (show xk.1 / 8 + 24 <= (memA d).length /\ xk.1 % 8 = 0 /\ xk.1 <= 1000000 from ⟨by have := HAtk.out.lt;have := HAtk.out.al;omega,by have := HAtk.out.al;omega,(hTr.ad 0 R k xk HR.out.1 HXk.out).2.1⟩)
     have hne := HBt.out.ne
     have hB36 : Below w3.heap.size w3 w6 := HK4.out.trans ((HK5.out.trans (HK6.out.mono HK5.out.size)).mono HK4.out.size)
     have hm6 : MemZ w6 mb S (memA d) := by
      have := HO.out.m
      unfold memA
      rw [HBt.out.sl]
      exact MemP.below this hB36
     have HS0 := Lib.hid (show WG d pr key (xk.1 / 8) ptr w7.heap.size kb xb mb S w7 false 0 0 w7 from by
      obtain ⟨C,hx,hC⟩ := HO.out.x
      exact ⟨Keeps.refl _ _,by omega,by omega,(fun e => by cases e),fun _ => ⟨w7.heap.size,start_m (vsT := swV (memA d) (xk.1 / 8) ptr) (level := 0) (N0 := 200) (JJ := fun _ _ _ _ => True) (Q0 := False) (st0 := 0) ⟨C,hx.below hB36 hx.lt,hC⟩ hm6 HO.out.ne hkb hb7 hB7 trivial (ofA d key) (stA d pr key)⟩⟩)
     have HG := Lib.hid (fun (W : World) (U i τ : Nat) (hi : i <= 20000) (hτ : τ <= 3) (h : StG2 d.lv (ofA d key) (stA d pr key) (WtW d (xk.1 / 8) ptr) (swV (memA d) (xk.1 / 8) ptr) key 0 0 200 (τ : Int) (fun _ _ _ _ => True) False W w7.heap.size U kb xb mb S i τ) =>
      gstep (level := 0) (c := 0) (JJ := fun _ _ _ _ => True) (Q0 := False) hTr hne (by decide) (show (τ : Int) <= 1000 by omega) (HBt.out.rem_le HP.out.2.1 HP.out.2.2 h40 key HKey.out) (fun _ _ _ h => trivial) (fun _ _ _ _ _ _ _ _ _ _ _ _ _ _ _ => trivial) hi h)
     have HBl := Lib.hid (show Below w2.heap.size w2 w7 from HB4.out.trans ((HK5.out.trans ((HK6.out.trans (hB7.mono HK6.out.size)).mono HK5.out.size)).mono HB4.out.size))
     have HE7 := Lib.hid ((HE5.out.kept (Keeps.of_below' HK6.out) (fun e => e)).kept (Keeps.of_below' hB7) (fun e => e))
     have HN7 := Lib.hid ((HN5.out.kept (Keeps.of_below' HK6.out) (fun e => e)).kept (Keeps.of_below' hB7) (fun e => e))
     have HG7 := Lib.hid (HG6.out.kept (Keeps.of_below' hB7) (fun e => e))
     have HBx := Lib.hid (show w2.heap.size <= eb /\ w3.heap.size = eb /\ eb < nb /\ nb < pg /\ pg < kb /\ kb < w7.heap.size /\ (∀ i,S i -> i < w3.heap.size) from by
      have h1 := HS56.out
      have h2 := HE4.out.lt
      have h3 := HG6.out.lt
      have h4 := hb7.lt
      have h5 := HEb2.out
      have h6 := HNb2.out
      exact ⟨by have := HB3.out.size;omega,h5,by omega,by omega,by omega,h4,fun i hi => MemP.lt HO.out.m hi⟩)
     clear hB36 hm6 hne hTr hb7 hB7 hkb h40
     go_upto_region 19 with (fail)
     have HRg7 := Lib.hid (HRg.out.below HBl.out)
     clear HRg HEb2 HNb2 HS56 HE4 HE5 HG6 HN5 HK4 HK5 HK6 HB3 HO
     go_loopw [19,21,22] (fun pv ov iv wr => ∃ (i τ : Nat) (o : Bool),iv = .int .i64 (i : Int) /\ ov = .bool o /\ pv = .slice (some ⟨pg,2 * min τ 2,none⟩) (3 - τ) (3 - τ) /\ Hid (WG d pr key (xk.1 / 8) ptr w7.heap.size kb xb mb S w7 o τ i wr)) (fun _ _ iv _ => 30000 - (intOf iv).toNat)
     case atStart => exact ⟨0,0,false,rfl,rfl,rfl,HS0⟩
     case round =>
      clear HS0
      obtain ⟨i,τ,o,rfl,rfl,rfl,HW⟩ := hrel
      have hi9 : (i : Int) < 10000 := by have := HW.out.2.2.1;omega
      have HI := Lib.hid hi9
      obtain ⟨po,hpo⟩ : ∃ po,2 * min τ 2 = po := ⟨_,rfl⟩
      obtain ⟨pn,hpn⟩ : ∃ pn,3 - τ = pn := ⟨_,rfl⟩
      rw [hpo,hpn]
      have HPo := Lib.hid (And.intro hpo hpn)
      clear hpo hpn
      cases o with
      | false =>
       obtain ⟨bq,hbq⟩ : ∃ bq : Bool,(decide (τ < 3) && (decide (i < gl) && ((gs.getD i 0).tmod 5 == 0))) = bq := ⟨_,rfl⟩
       have HBq := Lib.hid hbq
       clear hbq
       go_upto_region 21 with (fail)
       go_cut [118] (fun v wx => v = .bool bq /\ wx = wr)
       case first =>
        by_cases h1 : τ < 3
        ·have q0 : 0 < pn := by have := HPo.out.2;omega
         have q1 : decide (0 < pn) = true := decide_eq_true q0
         have q2 : decide ((0 : Int) < (pn : Int)) = true := decide_eq_true (by omega)
         by_cases h2 : i < gl
         ·obtain ⟨ad,u,hAA,had,hu,hcu⟩ := HRg7.out.at_ (k := i) (by rw [Hgl.out];exact h2)
          rw [List.getElem?_map,List.getElem?_eq_getElem (by rw [Hgl.out];exact h2)] at hu
          obtain rfl := (Option.some.inj hu).symm
          obtain ⟨gv,hgv⟩ : ∃ gv,gs.getD i 0 = gv := ⟨_,rfl⟩
          have hgv2 : gs[i]'(by rw [Hgl.out];exact h2) = gv := by rw [<- hgv,List.getD_eq_getElem?_getD,List.getElem?_eq_getElem (by rw [Hgl.out];exact h2)];rfl
          rw [hgv2] at hcu
          subst hAA
          have hcw : wr.cell? (ad.add i) = some (.int .i64 gv) := by
           refine (World.cell?_of_block (HW.out.1.block _ ?_ ?_)).trans hcu
           ·rw [block_of_add];have := HBl.out.size;omega
           ·rw [block_of_add]
            have h1 := HBx.out
            have h2 := HBl.out.size
            have h3 := HB4.out.size
            rintro (h | h | h)
            ·omega
            ·have := HS2.out _ h;omega
            ·omega
          have hbq := HBq.out
          rw [decide_eq_true h1,decide_eq_true h2,Bool.true_and,Bool.true_and,hgv] at hbq
          have q3 : decide ((i : Int) < (gl : Int)) = true := decide_eq_true (by omega)
          have q4 : (i : Int) < (gl : Int) := by omega
          clear hu hgv hgv2 hcu had
          go_wp2_with (fail)
          go_meet
          exact ⟨rfl,rfl⟩
         ·have hbq := HBq.out
          rw [decide_eq_true h1,decide_eq_false h2] at hbq
          obtain rfl : false = bq := hbq
          have q3 : decide ((i : Int) < (gl : Int)) = false := decide_eq_false (by omega)
          have q4 : decide (i < gl) = false := decide_eq_false h2
          go_wp2_with (fail)
          go_meet
          exact ⟨rfl,rfl⟩
        ·have hbq := HBq.out
         rw [decide_eq_false h1] at hbq
         obtain rfl : false = bq := hbq
         obtain rfl : pn = 0 := by have := HPo.out.2;omega
         go_wp2_with (fail)
         go_meet
         exact ⟨rfl,rfl⟩
       case rest =>
        obtain ⟨rfl,hwc⟩ := hcut
        subst hwc
        obtain ⟨wr,hwr⟩ : ∃ wr,wr = wc := ⟨_,rfl⟩
        subst hwr
        go_upto_if 118 with (fail)
        go_cut [19] (fun pv wx => ∃ τ,pv = .slice (some ⟨pg,2 * min τ 2,none⟩) (3 - τ) (3 - τ) /\ Hid (WG d pr key (xk.1 / 8) ptr w7.heap.size kb xb mb S w7 false τ i wx))
        case first =>
         cases bq with
         | false =>
          go_wp2_with (fail)
          go_meet
          exact ⟨τ,by rw [HPo.out.1,HPo.out.2],HW⟩
         | true =>
          have hτ : τ < 3 := by
           have := HBq.out
           rw [Bool.and_eq_true] at this
           exact of_decide_eq_true this.1
          have HT := Lib.hid hτ
          obtain ⟨av,hav⟩ : ∃ av,adS (xk.1 : Int) τ = av := ⟨_,rfl⟩
          obtain ⟨xv,hxv⟩ : ∃ xv,vaS ptr τ = xv := ⟨_,rfl⟩
          have hgr : Blk wr pg (putC a24 1 a72 ptr a24 2) 56 := HG7.out.kept HW.out.1 (fun h => by
           have h1 := HBx.out
           rcases h with h | h | h
           ·omega
           ·have := h1.2.2.2.2.2.2 _ h;omega
           ·omega)
          have HPc := Lib.hid (show wr.cell? ⟨pg,po,none⟩ = some (.int .u64 av) /\ wr.cell? ⟨pg,po + 1,none⟩ = some (.int .u64 xv) from by
           have h1 := HPo.out.1
           have h2 := H24.out
           have h3 := HXa.out
           rw [hgr.cell,hgr.cell]
           rcases (show τ = 0 ∨ τ = 1 ∨ τ = 2 by omega) with rfl | rfl | rfl
           ·obtain rfl : po = 0 := by omega
            have h4 : av = a24 := by rw [<- hav,<- h2.1,<- h3];rfl
            rw [h4,<- hxv]
            exact ⟨rfl,rfl⟩
           ·obtain rfl : po = 2 := by omega
            have h4 : av = a72 := by rw [<- hav,<- h2.2,<- h3];rfl
            rw [h4,<- hxv]
            exact ⟨rfl,rfl⟩
           ·obtain rfl : po = 4 := by omega
            have h4 : av = a24 := by rw [<- hav,<- h2.1,<- h3];rfl
            rw [h4,<- hxv]
            exact ⟨rfl,rfl⟩)
          have HPn := Lib.hid (show (0 : Int) < (pn : Int) /\ 0 < pn from by have := HPo.out.2;exact ⟨by omega,by omega⟩)
          obtain ⟨PQ,hPQ⟩ : ∃ PQ : World -> Prop,(fun W => WG d pr key (xk.1 / 8) ptr w7.heap.size kb xb mb S w7 false (τ + 1) i W) = PQ := ⟨_,rfl⟩
          have HSo := Lib.hid (show Calls Tryz.prog 15 #[.pointer (some ⟨mb,0,none⟩),.int .u64 av,.int .u64 xv] wr.drew fun e w' => e = .returned (.int .i64 0) /\ PQ w' from by
           subst hPQ
           obtain ⟨U,hP⟩ := HW.out.2.2.2.2 rfl
           have hd : Keeps NoB wr wr.drew := Keeps.of_below' (Below.refl _ _).drew
           have := turn_w HAd.out.1 HAd.out.2.1 HAd.out.2.2 (hP.keptY hd YG.none) hτ
           rw [hav,hxv] at this
           refine this.mono ?_
           rintro e w' ⟨rfl,hU,hk⟩
           exact ⟨rfl,(HW.out.1.trans (hd.mono (fun _ _ h => h.elim))).trans hk,by omega,HW.out.2.2.1,(fun e => by cases e),fun _ => hU⟩)
          have HPQ := Lib.hid hPQ
          clear hPQ hgr hav hxv hτ HBq HW
          go_upto_region 22 with (fail)
          refine wp_region_vals [Is (.pointer (some ⟨mb,0,none⟩)),Is (.slice (some ⟨pg,po,none⟩) pn pn),Is (.pointer (some ⟨pg,po,none⟩)),Is (.pointer (some ⟨pg,po,none⟩)),Is (.int .u64 av),Is (.slice (some ⟨pg,po,none⟩) pn pn),Is (.pointer (some ⟨pg,po,none⟩)),Is (.pointer (some ⟨pg,po + 1,none⟩)),Is (.int .u64 xv),Is (.int .i64 0)]
           (fun _ _ _ => True) (fun L2 W => CaG 9 wr.drew PQ L2 W) (by kernel_rfl) (by kernel_rfl) (by kernel_rfl) ?hst ?h0 ⟨?o0,?o1,?o2,?o3,?o4,?o5,?o6,?o7,?o8,?o9,trivial⟩ ?he
          any_goals (intro L vs A W H hf hd K hK)
          case hst => repeat' (first | exact trivial | refine ⟨fun _ _ _ _ _ _ h _ => h,?_⟩)
          case h0 =>
           exact CaG.start
          case o0 => have e15 : A.tmps[15]?.getD undef = .pointer (some ⟨mb,0,none⟩) := H.old 15 (by kernel_rfl);go_simp;exact hK _ _ (trivial) rfl (H.glob.keep rfl)
          case o1 => have e19 : A.tmps[19]?.getD undef = .slice (some ⟨pg,po,none⟩) pn pn := H.old 19 (by kernel_rfl);go_simp;exact hK _ _ (trivial) rfl (H.glob.keep rfl)
          case o2 => have e120 := H.iz hd 1 120 rfl rfl rfl (by kernel_rfl);have hw := HPn.out.1;have hw2 := HPn.out.2;go_simp;exact hK _ _ (trivial) rfl (H.glob.keep rfl)
          case o3 => have e121 := H.iz hd 2 121 rfl rfl rfl (by kernel_rfl);go_simp;exact hK _ _ (trivial) rfl (H.glob.keep rfl)
          case o4 => have e122 := H.iz hd 3 122 rfl rfl rfl (by kernel_rfl);have hW := Lib.hid (H.glob.p (H.notYet 9 4 rfl hf (by kernel_rfl)));have d : W.cell? ⟨pg,po,none⟩ = some (.int .u64 av) := (by rw [hW.out];exact HPc.out.1);go_simp;exact hK _ _ (trivial) rfl (H.glob.keep rfl)
          case o5 => have e19 : A.tmps[19]?.getD undef = .slice (some ⟨pg,po,none⟩) pn pn := H.old 19 (by kernel_rfl);go_simp;exact hK _ _ (trivial) rfl (H.glob.keep rfl)
          case o6 => have e124 := H.iz hd 5 124 rfl rfl rfl (by kernel_rfl);have hw := HPn.out.1;have hw2 := HPn.out.2;go_simp;exact hK _ _ (trivial) rfl (H.glob.keep rfl)
          case o7 => have e125 := H.iz hd 6 125 rfl rfl rfl (by kernel_rfl);go_simp;exact hK _ _ (trivial) rfl (H.glob.keep rfl)
          case o8 => have e126 := H.iz hd 7 126 rfl rfl rfl (by kernel_rfl);have hW := Lib.hid (H.glob.p (H.notYet 9 8 rfl hf (by kernel_rfl)));have d : W.cell? ⟨pg,po + 1,none⟩ = some (.int .u64 xv) := (by rw [hW.out];exact HPc.out.2);go_simp;exact hK _ _ (trivial) rfl (H.glob.keep rfl)
          case o9 => have e119 := H.iz hd 0 119 rfl rfl rfl (by kernel_rfl);have e123 := H.iz hd 4 123 rfl rfl rfl (by kernel_rfl);have e127 := H.iz hd 8 127 rfl rfl rfl (by kernel_rfl);have hW := H.glob.p hf;subst hW;have hC := HSo.out;go_simp;refine hC.mono ?_;rintro e w' ⟨rfl,hP⟩;go_simp;exact hK _ _ trivial rfl (CaG.done hP)
          case he =>
           intro vs W hlen hv
           match vs,hlen,hv with
           | [x0_,x1_,x2_,x3_,x4_,x5_,x6_,x7_,x8_,x9_],_,hv =>
           obtain rfl := isv hv 0 rfl rfl;obtain rfl := isv hv 1 rfl rfl;obtain rfl := isv hv 2 rfl rfl;obtain rfl := isv hv 3 rfl rfl;obtain rfl := isv hv 4 rfl rfl;obtain rfl := isv hv 5 rfl rfl;obtain rfl := isv hv 6 rfl rfl;obtain rfl := isv hv 7 rfl rfl;obtain rfl := isv hv 8 rfl rfl;obtain rfl := isv hv 9 rfl rfl
           intro L hall hG
           clear hv hlen
           have HQ := Lib.hid (hG.q (hall 9 (by decide)))
           clear hG hall
           simp only [fill,if_true]
           simp [Act.put]
           have HWn := Lib.hid (show WG d pr key (xk.1 / 8) ptr w7.heap.size kb xb mb S w7 false (τ + 1) i W from by
            have := HQ.out
            rw [<- HPQ.out] at this
            exact this)
           clear HQ HPQ HPc HSo HPn
           have h1 := HPo.out.1
           have h2 := HPo.out.2
           have hτ := HT.out
           clear HPo HT
           rcases (show τ = 0 ∨ τ = 1 ∨ τ = 2 by omega) with rfl | rfl | rfl
           ·obtain rfl : po = 0 := by omega
            obtain rfl : pn = 3 := by omega
            clear h1 h2 hτ
            go_wp2_with (fail)
            go_meet
            exact ⟨1,rfl,HWn⟩
           ·obtain rfl : po = 2 := by omega
            obtain rfl : pn = 2 := by omega
            clear h1 h2 hτ
            go_wp2_with (fail)
            go_meet
            exact ⟨2,rfl,HWn⟩
           ·obtain rfl : po = 4 := by omega
            obtain rfl : pn = 1 := by omega
            clear h1 h2 hτ
            go_wp2_with (fail)
            go_meet
            exact ⟨3,rfl,HWn⟩
        case rest =>
         clear HW HPo HBq
         obtain ⟨τ,rfl,HW⟩ := hcut
         obtain ⟨U,hP⟩ := HW.out.2.2.2.2 rfl
         have hj := hP.le
         have h3 := HW.out.2.1
         have HJ := Lib.hid (show i <= 9200 from by omega)
         have HSp := Lib.hid (HG.out wc U i τ (by omega) h3 hP)
         clear hP hj h3
         go_wp2_with (fail)
         refine HSp.out.mono ?_
         rintro e w11 ⟨⟨rfl,hP⟩ | ⟨rfl,hF,hE⟩,hk11⟩
         ·have HWn := Lib.hid (show WG d pr key (xk.1 / 8) ptr w7.heap.size kb xb mb S w7 false τ (i + 1) w11 from ⟨HW.out.1.trans (hk11.mono (fun i _ h => by rcases h with h | h | h;exact .inl h;exact .inr (.inl h);exact .inr (.inr h.1))),HW.out.2.1,(by have := HJ.out;omega),(fun e => by cases e),fun _ => ⟨_,hP⟩⟩)
          clear hP hk11 HSp
          go_wp2_with (fail)
          go_roundw
          case rel => exact ⟨i + 1,τ,false,by go_num,rfl,rfl,HWn⟩
          case measure => have := HI.out;simp [intOf];omega
         ·have HWn := Lib.hid (show WG d pr key (xk.1 / 8) ptr w7.heap.size kb xb mb S w7 true τ (i + 1) w11 from ⟨HW.out.1.trans (hk11.mono (fun i _ h => by rcases h with h | h | h;exact .inl h;exact .inr (.inl h);exact .inr (.inr h.1))),HW.out.2.1,(by have := HJ.out;omega),(fun _ => ⟨_,_,hF,hE⟩),fun e => by cases e⟩)
          clear hF hE hk11 HSp
          go_wp2_with (fail)
          go_roundw
          case rel => exact ⟨i + 1,τ,true,by go_num,rfl,rfl,HWn⟩
          case measure => have := HI.out;simp [intOf];omega
      | true =>
       obtain ⟨U,jj,hF,R',x,lt,tt,sb,hw,hs,T,S5,is,mk,F,lo,fl,fe,hR',hx,hlt,hT5,hb,hM,_⟩ := HW.out.2.2.2.1 rfl
       obtain rfl : R = R' := (Option.some.inj (hR'.symm.trans HR.out.1)).symm
       obtain ⟨kq,hkq⟩ : ∃ kq : Wk,({ wkSeen (wkCome (kB kb xb 0 key 0 lt tt) kb sb x.1) (ofV (rdW (WtW d (xk.1 / 8) ptr x.1 T) 24)).1 hw hs with over := true,e := 0 } : Wk) = kq := ⟨_,rfl⟩
       have hb' : Blk wr kb (wkCells kq) 70 := by rw [<- hkq];exact hb
       have HQ := Lib.hid (show kq.next = .func (.func 72) #[.pointer (some ⟨kb,0,none⟩)] #[] /\ kq.over = true /\ kq.e = 0 /\ kq.at_ = (x.1 : Int) /\ ndCells kq.n = ndCells (if x.1 = xk.1 then swN xk.2 ptr T else x.2) from by
        rw [<- hkq]
        exact ⟨rfl,rfl,rfl,rfl,(found_w HBt.out HP.out.2.2 HR.out.1 HXk.out (by rw [HP0.out];exact HZ0.out) HZ2.out hR' hx T).2⟩)
       have hMP : MP mb S w7.heap.size (memA d).length (τ + 0) wr := ⟨_,_,_,_,_,_,_,_,_,hM.m,swV_len _ _ _ _,by omega,fun i hi => (hM.s i hi).imp id (·.1)⟩
       have HL0 := Lib.hid (show Keeps (ZG kb S w7.heap.size) w7 wr /\ Blk wr kb (wkCells kq) 70 /\ MP mb S w7.heap.size (memA d).length (τ + 0) wr from ⟨HW.out.1,hb',hMP⟩)
       have HX := Lib.hid hx
       have HT3 := Lib.hid HW.out.2.1
       clear hF hR' hx hlt hT5 hb hM hkq hb' hMP HW HG HI
       go_upto_region 26 with (fail)
       go_loopw [23] (fun iv W => ∃ q : Nat,iv = .int .i64 (q : Int) /\ Hid (q <= pn) /\ Hid (Keeps (ZG kb S w7.heap.size) w7 W /\ Blk W kb (wkCells kq) 70 /\ MP mb S w7.heap.size (memA d).length (τ + q) W)) (fun iv _ => 30000 - (intOf iv).toNat)
       case atStart => exact ⟨0,rfl,Lib.hid (Nat.zero_le _),HL0⟩
       case round =>
        clear HL0
        obtain ⟨q,rfl,HQl,HL⟩ := hrel
        by_cases hqp : q < pn
        ·have hgr : Blk wr pg (putC a24 1 a72 ptr a24 2) 56 := HG7.out.kept HL.out.1 (fun h => by
          have h1 := HBx.out
          rcases h with h | h | h
          ·omega
          ·have := h1.2.2.2.2.2.2 _ h;omega
          ·omega)
         obtain ⟨av,hav⟩ : ∃ av,adS (xk.1 : Int) (τ + q) = av := ⟨_,rfl⟩
         obtain ⟨xv,hxv⟩ : ∃ xv,vaS ptr (τ + q) = xv := ⟨_,rfl⟩
         have HPc := Lib.hid (show wr.cell? ⟨pg,po + q * 2,none⟩ = some (.int .u64 av) /\ wr.cell? ⟨pg,po + q * 2 + 1,none⟩ = some (.int .u64 xv) from by
          have h1 := HPo.out.1
          have h5 := HPo.out.2
          have h2 := H24.out
          have h3 := HXa.out
          rw [hgr.cell,hgr.cell,show po + q * 2 = 2 * (τ + q) by omega]
          obtain ⟨n,hn⟩ : ∃ n,τ + q = n := ⟨_,rfl⟩
          rw [hn] at hav hxv ⊢
          rcases (show n = 0 ∨ n = 1 ∨ n = 2 by omega) with rfl | rfl | rfl
          ·have h4 : av = a24 := by rw [<- hav,<- h2.1,<- h3];rfl
           rw [h4,<- hxv]
           exact ⟨rfl,rfl⟩
          ·have h4 : av = a72 := by rw [<- hav,<- h2.2,<- h3];rfl
           rw [h4,<- hxv]
           exact ⟨rfl,rfl⟩
          ·have h4 : av = a24 := by rw [<- hav,<- h2.1,<- h3];rfl
           rw [h4,<- hxv]
           exact ⟨rfl,rfl⟩)
         have HPn := Lib.hid (show (q : Int) < (pn : Int) /\ q < pn from ⟨by omega,hqp⟩)
         have q1 : decide ((q : Int) < (pn : Int)) = true := decide_eq_true (by omega)
         have q2 : decide (q < pn) = true := decide_eq_true hqp
         obtain ⟨PQ,hPQ⟩ : ∃ PQ : World -> Prop,(fun W => Keeps (ZG kb S w7.heap.size) w7 W /\ Blk W kb (wkCells kq) 70 /\ MP mb S w7.heap.size (memA d).length (τ + (q + 1)) W) = PQ := ⟨_,rfl⟩
         have HSo := Lib.hid (show Calls Tryz.prog 15 #[.pointer (some ⟨mb,0,none⟩),.int .u64 av,.int .u64 xv] wr.drew fun e w' => e = .returned (.int .i64 0) /\ PQ w' from by
          subst hPQ
          have hd : Below wr.heap.size wr wr.drew := (Below.refl _ _).drew
          have hok := adS_ok HAd.out.1 HAd.out.2.1 HAd.out.2.2 (τ + q)
          have h1 := HBx.out
          have := MP.store (HL.out.2.2.below hd) (by have := HL.out.1.size;have := hd.size;omega) av xv (by rw [<- hav];exact hok.1) (by rw [<- hav];exact hok.2.1) (by rw [<- hav];exact hok.2.2) (by have := HT3.out;have := HPo.out.2;omega)
          refine this.mono ?_
          rintro e w' ⟨rfl,hm,hk⟩
          refine ⟨rfl,(HL.out.1.trans ((Keeps.of_below' hd).mono (fun _ _ h => h.elim))).trans (hk.mono (fun i _ h => h.elim (fun h => .inr (.inl h)) (fun h => .inr (.inr h)))),(HL.out.2.1.kept (Keeps.of_below' hd) (fun e => e)).kept hk (fun h => ?_),by rw [<- Nat.add_assoc];exact hm⟩
          rcases h with h | h
          ·have := h1.2.2.2.2.2.2 _ h;omega
          ·omega)
         have HPQ := Lib.hid hPQ
         clear hPQ hgr hav hxv hqp HL HQl
         go_upto_region 28 with (fail)
         refine wp_region_vals [Is (.pointer (some ⟨mb,0,none⟩)),Is (.slice (some ⟨pg,po,none⟩) pn pn),Is (.int .i64 (q : Int)),Is (.pointer (some ⟨pg,po + q * 2,none⟩)),Is (.pointer (some ⟨pg,po + q * 2,none⟩)),Is (.int .u64 av),Is (.slice (some ⟨pg,po,none⟩) pn pn),Is (.int .i64 (q : Int)),Is (.pointer (some ⟨pg,po + q * 2,none⟩)),Is (.pointer (some ⟨pg,po + q * 2 + 1,none⟩)),Is (.int .u64 xv),Is (.int .i64 0)]
          (fun _ _ _ => True) (fun L2 W => CaG 11 wr.drew PQ L2 W) (by kernel_rfl) (by kernel_rfl) (by kernel_rfl) ?hst ?h0 ⟨?o0,?o1,?o2,?o3,?o4,?o5,?o6,?o7,?o8,?o9,?o10,?o11,trivial⟩ ?he
         any_goals (intro L vs A W H hf hd K hK)
         case hst => repeat' (first | exact trivial | refine ⟨fun _ _ _ _ _ _ h _ => h,?_⟩)
         case h0 =>
          exact CaG.start
         case o0 => have e15 : A.tmps[15]?.getD undef = .pointer (some ⟨mb,0,none⟩) := H.old 15 (by kernel_rfl);go_simp;exact hK _ _ (trivial) rfl (H.glob.keep rfl)
         case o1 => have e19 : A.tmps[19]?.getD undef = .slice (some ⟨pg,po,none⟩) pn pn := H.old 19 (by kernel_rfl);go_simp;exact hK _ _ (trivial) rfl (H.glob.keep rfl)
         case o2 => have e23 : A.tmps[23]?.getD undef = .int .i64 (q : Int) := H.old 23 (by kernel_rfl);go_simp;exact hK _ _ (trivial) rfl (H.glob.keep rfl)
         case o3 => have e143 := H.iz hd 1 143 rfl rfl rfl (by kernel_rfl);have e144 := H.iz hd 2 144 rfl rfl rfl (by kernel_rfl);have hw := HPn.out.1;have hw2 := HPn.out.2;go_simp;exact hK _ _ (trivial) rfl (H.glob.keep rfl)
         case o4 => have e145 := H.iz hd 3 145 rfl rfl rfl (by kernel_rfl);go_simp;exact hK _ _ (trivial) rfl (H.glob.keep rfl)
         case o5 => have e146 := H.iz hd 4 146 rfl rfl rfl (by kernel_rfl);have hW := Lib.hid (H.glob.p (H.notYet 11 5 rfl hf (by kernel_rfl)));have d : W.cell? ⟨pg,po + q * 2,none⟩ = some (.int .u64 av) := (by rw [hW.out];exact HPc.out.1);go_simp;exact hK _ _ (trivial) rfl (H.glob.keep rfl)
         case o6 => have e19 : A.tmps[19]?.getD undef = .slice (some ⟨pg,po,none⟩) pn pn := H.old 19 (by kernel_rfl);go_simp;exact hK _ _ (trivial) rfl (H.glob.keep rfl)
         case o7 => have e23 : A.tmps[23]?.getD undef = .int .i64 (q : Int) := H.old 23 (by kernel_rfl);go_simp;exact hK _ _ (trivial) rfl (H.glob.keep rfl)
         case o8 => have e148 := H.iz hd 6 148 rfl rfl rfl (by kernel_rfl);have e149 := H.iz hd 7 149 rfl rfl rfl (by kernel_rfl);have hw := HPn.out.1;have hw2 := HPn.out.2;go_simp;exact hK _ _ (trivial) rfl (H.glob.keep rfl)
         case o9 => have e150 := H.iz hd 8 150 rfl rfl rfl (by kernel_rfl);go_simp;exact hK _ _ (trivial) rfl (H.glob.keep rfl)
         case o10 => have e151 := H.iz hd 9 151 rfl rfl rfl (by kernel_rfl);have hW := Lib.hid (H.glob.p (H.notYet 11 10 rfl hf (by kernel_rfl)));have d : W.cell? ⟨pg,po + q * 2 + 1,none⟩ = some (.int .u64 xv) := (by rw [hW.out];exact HPc.out.2);go_simp;exact hK _ _ (trivial) rfl (H.glob.keep rfl)
         case o11 => have e142 := H.iz hd 0 142 rfl rfl rfl (by kernel_rfl);have e147 := H.iz hd 5 147 rfl rfl rfl (by kernel_rfl);have e152 := H.iz hd 10 152 rfl rfl rfl (by kernel_rfl);have hW := H.glob.p hf;subst hW;have hC := HSo.out;go_simp;refine hC.mono ?_;rintro e w' ⟨rfl,hP⟩;go_simp;exact hK _ _ trivial rfl (CaG.done hP)
         case he =>
          intro vs W hlen hv
          match vs,hlen,hv with
          | [x0_,x1_,x2_,x3_,x4_,x5_,x6_,x7_,x8_,x9_,x10_,x11_],_,hv =>
          obtain rfl := isv hv 0 rfl rfl;obtain rfl := isv hv 1 rfl rfl;obtain rfl := isv hv 2 rfl rfl;obtain rfl := isv hv 3 rfl rfl;obtain rfl := isv hv 4 rfl rfl;obtain rfl := isv hv 5 rfl rfl;obtain rfl := isv hv 6 rfl rfl;obtain rfl := isv hv 7 rfl rfl;obtain rfl := isv hv 8 rfl rfl;obtain rfl := isv hv 9 rfl rfl;obtain rfl := isv hv 10 rfl rfl;obtain rfl := isv hv 11 rfl rfl
          intro L hall hG
          clear hv hlen
          have HQ_ := Lib.hid (hG.q (hall 11 (by decide)))
          clear hG hall
          simp only [fill,if_true]
          simp [Act.put]
          have HWn := Lib.hid (show Keeps (ZG kb S w7.heap.size) w7 W /\ Blk W kb (wkCells kq) 70 /\ MP mb S w7.heap.size (memA d).length (τ + (q + 1)) W from by
           have := HQ_.out
           rw [<- HPQ.out] at this
           exact this)
          have hq3 : q < 3 := by have := HPn.out.2;have := HPo.out.2;omega
          clear HQ_ HPQ HPc HSo q1 q2
          go_wp2_with (fail)
          go_roundw
          case rel => exact ⟨q + 1,by go_num,Lib.hid HPn.out.2,HWn⟩
          case measure => simp [intOf];omega
        ·have hqe : q = pn := by have := HQl.out;omega
         have q1 : decide ((q : Int) < (pn : Int)) = false := decide_eq_false (by omega)
         have q2 : decide (q < pn) = false := decide_eq_false hqp
         have hzk : ∀ b,b < kb -> eb <= b -> ¬ ZG kb S w7.heap.size b := fun b h1 h2 h => by
          have h3 := HBx.out
          rcases h with h | h | h
          ·omega
          ·have := h3.2.2.2.2.2.2 _ h;omega
          ·omega
         have hbx := HBx.out
         have hE := HE7.out.kept HL.out.1 (hzk eb (by omega) (by omega))
         have hN := HN7.out.kept HL.out.1 (hzk nb (by omega) (by omega))
         have d13 : wr.cell? ⟨nb,13,none⟩ = some (.int .u64 p0) := by rw [<- HP0.out];exact (hN.cell 13).trans rfl
         have f13 : wr.frozen? ⟨nb,13,none⟩ = false := hN.frozen 13
         have hNs := hN.set 13 (.int .u64 ptr)
         rw [nd_p0] at hNs
         have hEs := hE.other (b' := nb) 13 (.int .u64 ptr) (by omega)
         have hks := HL.out.2.1.other (b' := nb) 13 (.int .u64 ptr) (by omega)
         have hKs := (HL.out.1.mono (S' := fun i => ZG kb S w7.heap.size i ∨ i = nb) (fun _ _ h => .inl h)).setCell (p := ⟨nb,13,none⟩) (.inl (.inr rfl)) (.int .u64 ptr)
         obtain ⟨wX,hwX⟩ : ∃ wX,wr.setCell ⟨nb,13,none⟩ (.int .u64 ptr) = wX := ⟨_,rfl⟩
         rw [hwX] at hNs hEs hks hKs
         have HWX := Lib.hid hwX
         have HNX := Lib.hid hNs
         have HEX := Lib.hid hEs
         have HBX := Lib.hid (show Below w2.heap.size w2 wX from ⟨hKs.os.trans HBl.out.os,hKs.tape.trans HBl.out.tape,hKs.output.trans HBl.out.output,Nat.le_trans HBl.out.size hKs.size,fun i hi => (hKs.block i (Nat.lt_of_lt_of_le hi HBl.out.size) (fun h => by
          rcases h with (h | h | h) | h
          ·omega
          ·have := HS2.out _ h;omega
          ·have := HBl.out.size;omega
          ·omega)).trans (HBl.out.block i hi)⟩)
         obtain ⟨nn,hnn⟩ : ∃ nn,kq.n = nn := ⟨_,rfl⟩
         obtain ⟨aq,haq⟩ : ∃ aq,(x.1 : Int) = aq := ⟨_,rfl⟩
         have HAt := Lib.hid (show Calls Tryz.prog 17 #[.pointer (some ⟨kb,0,none⟩)] wX fun e w' => e = .returned (.tuple #[.int .u64 aq,.agg (ndCells nn),.int .i64 0]) /\ Below wX.heap.size wX w' from by
          have hq := HQ.out
          have := wat_v wX kb kq 0 hks hq.1 hq.2.1 (.inl hq.2.2.1)
          rw [hq.2.2.1,hnn,hq.2.2.2.1,haq] at this
          exact this)
         have HNn := Lib.hid (show ndCells nn = ndCells (if x.1 = xk.1 then swN xk.2 ptr T else x.2) from by rw [<- hnn];exact HQ.out.2.2.2.2)
         have HAq := Lib.hid haq
         clear hqe hzk hbx hE hN hNs hEs hks hKs hwX hnn haq HL HQl hqp HPo
         go_upto_region 30 with (fail)
         rw [HWX.out]
         clear HWX d13 f13 q1 q2
         go_wp2_with (fail)
         refine HAt.out.mono ?_
         rintro e w8 ⟨rfl,hB8⟩
         have hz := Blk.new w8 (ndCells nd0) 46
         have hzr := hz.row (ndCells nn)
         have kx : Below wX.heap.size wX ((w8.alloc (.cells (ndCells nd0) 46)).setRow w8.heap.size (ndCells nn)) := below_setRow (hB8.alloc hB8.size _) hB8.size _
         obtain ⟨x1,hx1⟩ : ∃ x1,w8.heap.size = x1 := ⟨_,rfl⟩
         have HX1a := Lib.hid (show wX.heap.size <= x1 from by rw [<- hx1];exact hB8.size)
         rw [hx1] at hz hzr kx
         have HX1z := Lib.hid hx1
         have HZ := Lib.hid hz
         obtain ⟨w9,hw9⟩ : ∃ w9,(w8.alloc (.cells (ndCells nd0) 46)).setRow x1 (ndCells nn) = w9 := ⟨_,rfl⟩
         have HW9 := Lib.hid hw9
         rw [hw9] at kx hzr
         have HX9 := Lib.hid hzr
         have HK9 := Lib.hid kx
         clear hz hzr hx1 hw9 kx HAt hB8
         go_upto_region 31 with (first
          | ((with_reducible refine wpList_alloc_ndAt (o := ⟨some 25,_,_,_,_,_⟩) rfl rfl x1 ?hz ?_);(case hz => exact HX1z.out))
          | ((with_reducible refine wpList_store_ndc (o := ⟨none,.store 46 (.tmp 25) (.tmp 161),_,_,_,_⟩) ?hgc (.tmp 25) (.tmp 161) ?hoc x1 (ndCells nn) nn nd0 ?hxc ?hyc ?hbc ?hmc ?_);(case hgc => rfl);(case hoc => rfl);(case hxc => exact ev_tmp (by simp));(case hyc => exact ev_tmp (by simp));(case hmc => rfl);(case hbc => exact HZ.out)))
         rw [HW9.out]
         clear HW9 HZ HX1z
         have HB9 := Lib.hid (HBX.out.trans (HK9.out.mono HBX.out.size))
         have hrl : R.length <= 1000 := by
          have hrl := HBt.out.rowLe HP.out.2.1 (by have := risR_len (most := 40) l [] (by decide);omega) 0 R HR.out.1
          rw [if_pos rfl] at hrl
          omega
         have HOf := Lib.hid (aof_v w9 ab gb cb g cap d (HAr.out.below HB9.out) 0 R HR.out.1 key HBt.out.le hrl)
         obtain ⟨q0,hq0⟩ : ∃ q0,ofA d key 0 = q0 := ⟨_,rfl⟩
         rw [hq0] at HOf HX
         clear hq0 hrl
         go_wp2_with (fail)
         refine HOf.out.mono ?_
         rintro e wq ⟨rfl,rfl⟩
         have hq0l : q0 < rn := by have := (List.getElem?_eq_some_iff.1 HX.out).1;have := HR.out.2;omega
         have q1 : (q0 : Int) < (rn : Int) := by omega
         have HLx := Lib.hid (show ∀ j v,(atC x.1 x.2)[j]? = some v -> w9.cell? ⟨rb,q0 * 22 + j,none⟩ = some v from fun j v hj => by
          have hj22 : j < 22 := by have := (Array.getElem?_eq_some_iff.1 hj).1;rwa [atC_size] at this
          exact (HB9.out.cell (p := ⟨rb,q0 * 22 + j,none⟩) HRw.out.lt).trans ((HRw.out.cell HX.out hj22).trans hj))
         have hz := Blk.new w9 (atC 0 nd0) 48
         have hzr := hz.row (atC x.1 x.2)
         have kx : Below w9.heap.size w9 ((w9.alloc (.cells (atC 0 nd0) 48)).setRow w9.heap.size (atC x.1 x.2)) := below_setRow ((Below.refl _ w9).alloc (Nat.le_refl _) _) (Nat.le_refl _) _
         obtain ⟨vb,hvb⟩ : ∃ vb,w9.heap.size = vb := ⟨_,rfl⟩
         rw [hvb] at hz hzr
         have HVb := Lib.hid hvb
         have HVb2 := Lib.hid hvb
         have HZ := Lib.hid hz
         obtain ⟨wv,hwv⟩ : ∃ wv,(w9.alloc (.cells (atC 0 nd0) 48)).setRow vb (atC x.1 x.2) = wv := ⟨_,rfl⟩
         have HWV := Lib.hid hwv
         rw [hvb,hwv] at kx
         rw [hwv] at hzr
         have HVv := Lib.hid hzr
         have HKv := Lib.hid (show Below w9.heap.size w9 wv from by rw [hvb];exact kx)
         clear hz hzr kx hvb hwv HOf
         rename_i hK
         dsimp only
         refine hK _ _ ?_
         clear hK
         refine wpList_idx_at rfl rfl (.tmp 163) (.tmp 166) 167 rfl rfl rfl rb rn cr q0 x.1 x.2 (ev_tmp (by simp)) (ev_tmp (by simp)) hq0l (by simp) HLx.out ?_
         go_upto_region 32 with (first
          | ((with_reducible refine wpList_alloc_at (o := ⟨some 27,_,_,_,_,_⟩) ?hga ?hoa vb ?hza ?_);(case hga => rfl);(case hoa => rfl);(case hza => exact HVb.out))
          | ((with_reducible refine wpList_store_at (o := ⟨none,.store 48 (.tmp 27) (.tmp 168),_,_,_,_⟩) ?hgc (.tmp 27) (.tmp 168) ?hoc vb (atC x.1 x.2) x.1 x.2 0 nd0 ?hxc ?hyc ?hbc ?hmc ?_);(case hgc => rfl);(case hoc => rfl);(case hxc => exact ev_tmp (by simp [Act.put]));(case hyc => exact ev_tmp (by simp [Act.put]));(case hmc => rfl);(case hbc => exact HZ.out)))
         rw [HWV.out]
         clear HWV HZ HVb HLx q1 hq0l
         simp [Act.put]
         have hbx := HBx.out
         have hwx := HBX.out
         have hx1 := HX9.out.lt
         have hvb := HVb2.out
         have HBlk := Lib.hid (show eb < nb /\ nb < x1 /\ x1 < vb /\ w2.heap.size <= eb from by
          have h1 := HX1a.out
          have h2 := HNX.out.lt
          exact ⟨by omega,by omega,by omega,by omega⟩)
         have hE := (HEX.out.kept (Keeps.of_below' HK9.out) (fun e => e)).kept (Keeps.of_below' HKv.out) (fun e => e)
         have hN := (HNX.out.kept (Keeps.of_below' HK9.out) (fun e => e)).kept (Keeps.of_below' HKv.out) (fun e => e)
         have hX := HX9.out.kept (Keeps.of_below' HKv.out) (fun e => e)
         have hV := HVv.out
         have HBv := Lib.hid (HB9.out.trans (HKv.out.mono HB9.out.size))
         have v0 : wv.cell? ⟨vb,0,none⟩ = some (.int .u64 aq) := (hV.cell 0).trans (by rw [<- HAq.out];rfl)
         have cX : wv.cell? ⟨x1,3,none⟩ = some (.int .u64 nn.ct) := (hX.cell 3).trans rfl
         have fX : wv.frozen? ⟨x1,3,none⟩ = false := hX.frozen 3
         have cE : wv.cell? ⟨eb,3,none⟩ = some (.int .u64 xk.2.ct) := (hE.cell 3).trans rfl
         have fE : wv.frozen? ⟨eb,3,none⟩ = false := hE.frozen 3
         have cN : wv.cell? ⟨nb,3,none⟩ = some (.int .u64 xk.2.ct) := (hN.cell 3).trans rfl
         have fN : wv.frozen? ⟨nb,3,none⟩ = false := hN.frozen 3
         have HbE := Lib.hid hE
         have HbN := Lib.hid hN
         have HbX := Lib.hid hX
         have hB := HBlk.out
         have n1 : ¬ x1 = eb := by omega
         have n2 : ¬ x1 = nb := by omega
         have n3 : ¬ eb = nb := by omega
         have n4 : ¬ eb = x1 := by omega
         have n5 : ¬ nb = x1 := by omega
         have n6 : ¬ nb = eb := by omega
         have hX3 := ((hX.set 3 (.int .u64 0)).other (b' := eb) 3 (.int .u64 0) n1).other (b' := nb) 3 (.int .u64 0) n2
         have hE3 := ((hE.other (b' := x1) 3 (.int .u64 0) n4).set 3 (.int .u64 0)).other (b' := nb) 3 (.int .u64 0) n3
         have hN3 := ((hN.other (b' := x1) 3 (.int .u64 0) n5).other (b' := eb) 3 (.int .u64 0) n6).set 3 (.int .u64 0)
         have hV3 := ((hV.other (b' := x1) 3 (.int .u64 0) (by omega)).other (b' := eb) 3 (.int .u64 0) (by omega)).other (b' := nb) 3 (.int .u64 0) (by omega)
         have hKZ := (((Keeps.refl (fun i => i = x1 ∨ i = eb ∨ i = nb) wv).setCell (p := ⟨x1,3,none⟩) (.inl (.inl rfl)) (.int .u64 0)).setCell (p := ⟨eb,3,none⟩) (.inl (.inr (.inl rfl))) (.int .u64 0)).setCell (p := ⟨nb,3,none⟩) (.inl (.inr (.inr rfl))) (.int .u64 0)
         rw [nd_ct0] at hX3 hE3 hN3
         obtain ⟨wZ,hwZ⟩ : ∃ wZ,((wv.setCell ⟨x1,3,none⟩ (.int .u64 0)).setCell ⟨eb,3,none⟩ (.int .u64 0)).setCell ⟨nb,3,none⟩ (.int .u64 0) = wZ := ⟨_,rfl⟩
         rw [hwZ] at hX3 hE3 hN3 hV3 hKZ
         have HWZ := Lib.hid hwZ
         have HX3 := Lib.hid hX3
         have HE3 := Lib.hid hE3
         have HN3 := Lib.hid hN3
         have HVZ := Lib.hid (show ∀ j v,(ndCells x.2)[j]? = some v -> wZ.cell? ⟨vb,1 + j,none⟩ = some v from fun j v hj => (hV3.cell (1 + j)).trans ((atC_succ _ _ j).trans hj))
         have hBv := HBv.out
         have HBZ := Lib.hid (HB2.out.trans ((show Below w2.heap.size w2 wZ from ⟨hKZ.os.trans hBv.os,hKZ.tape.trans hBv.tape,hKZ.output.trans hBv.output,Nat.le_trans hBv.size hKZ.size,fun i hi => (hKZ.block i (Nat.lt_of_lt_of_le hi hBv.size) (fun h => by omega)).trans (hBv.block i hi)⟩).mono HB2.out.size))
         have HInX := Lib.hid (show (Tryz.prog.info? 46).map (·.size) = some (ndCells x.2).size from by rw [ndCells_size];kernel_rfl)
         clear hbx hwx hx1 hvb hE hN hX hV hB hX3 hE3 hN3 hV3 hKZ hwZ hBv
         go_upto_region 35 with (fail)
         rw [HWZ.out]
         clear HWZ cX fX cE fE cN fN n1 n2 n3 n4 n5 n6 v0
         by_cases hxe : x.1 = xk.1
         ·have hn := HNn.out
          rw [if_pos hxe] at hn
          obtain ⟨r,hr,hr2⟩ := nd_which hn
          have hqa : aq = xa := by have h1 := HAq.out;have h2 := HXa.out;omega
          subst hqa
          have HKn := Lib.hid (known_v wZ)
          clear hxe hn HNn
          cases r with
          | true =>
           clear hr2
           go_wp2_with (first
            | ((with_reducible refine wpList_load_ndg (o := ⟨some 194,_,_,_,_,_⟩) ?hg (.tmp 25) ?ho x1 { nn with ct := 0 } ?hx ?hb ?_);(case hg => rfl);(case ho => rfl);(case hx => exact ev_tmp (by simp));(case hb => exact HX3.out))
            | ((with_reducible refine wpList_load_ndg (o := ⟨some 195,_,_,_,_,_⟩) ?hg (.tmp 17) ?ho eb { xk.2 with ct := 0 } ?hx ?hb ?_);(case hg => rfl);(case ho => rfl);(case hx => exact ev_tmp (by simp [Act.put]));(case hb => exact HE3.out))
            | ((with_reducible refine wpList_eq_anyg _ 194 195 _ _ _ _ { nn with ct := 0 } { xk.2 with ct := 0 } true hr ?hw3 ?hx3 ?hy3 ?_);(case hw3 => rfl);(case hx3 => simp [Act.put]);(case hy3 => simp [Act.put])))
           refine HKn.out.mono ?_
           rintro e wk ⟨rfl,hBk⟩
           have HBf := Lib.hid (HBZ.out.trans (hBk.mono HBZ.out.size))
           clear hBk
           go_wp2_with (fail)
           go_ret
           exact ⟨rfl,HBf.out⟩
          | false =>
           have hc := hr2 rfl
           have hX4 := HX3.out
           obtain ⟨nB,hnB⟩ : ∃ nB : Nd,{ { xk.2 with p := fun i => if i = 0 then ptr else xk.2.p i } with ct := 0 } = nB := ⟨_,rfl⟩
           obtain ⟨nA,hnA⟩ : ∃ nA : Nd,{ xk.2 with ct := 0 } = nA := ⟨_,rfl⟩
           have hN4 : Blk wZ nb (ndCells nB) 46 := by rw [<- hnB];exact HN3.out
           have hE4 : Blk wZ eb (ndCells nA) 46 := by rw [<- hnA];exact HE3.out
           rw [hnB] at hc
           rw [hnA] at hr
           rw [hc] at hr hX4
           have HX4 := Lib.hid hX4
           have HN4 := Lib.hid hN4
           have HE4 := Lib.hid hE4
           have HR := Lib.hid hr
           clear hr hr2 hc hX4 hN4 hE4 hnB hnA HX3 HN3 HE3
           go_wp2_with (first
            | ((with_reducible refine wpList_load_ndg (o := ⟨some 194,_,_,_,_,_⟩) ?hg (.tmp 25) ?ho x1 nB ?hx ?hb ?_);(case hg => rfl);(case ho => rfl);(case hx => exact ev_tmp (by simp));(case hb => exact HX4.out))
            | ((with_reducible refine wpList_load_ndg (o := ⟨some 195,_,_,_,_,_⟩) ?hg (.tmp 17) ?ho eb nA ?hx ?hb ?_);(case hg => rfl);(case ho => rfl);(case hx => exact ev_tmp (by simp [Act.put]));(case hb => exact HE4.out))
            | ((with_reducible refine wpList_eq_anyg _ 194 195 _ _ _ _ nB nA false HR.out ?hw3 ?hx3 ?hy3 ?_);(case hw3 => rfl);(case hx3 => simp [Act.put]);(case hy3 => simp [Act.put]))
            | ((with_reducible refine wpList_load_ndg (o := ⟨some 198,_,_,_,_,_⟩) ?hg (.tmp 25) ?ho x1 nB ?hx ?hb ?_);(case hg => rfl);(case ho => rfl);(case hx => exact ev_tmp (by simp));(case hb => exact HX4.out))
            | ((with_reducible refine wpList_load_ndg (o := ⟨some 199,_,_,_,_,_⟩) ?hg (.tmp 18) ?ho nb nB ?hx ?hb ?_);(case hg => rfl);(case ho => rfl);(case hx => exact ev_tmp (by simp [Act.put]));(case hb => exact HN4.out))
            | ((with_reducible refine wpList_eq_ndg _ 198 199 _ _ _ _ nB ?hw3 ?hx3 ?hy3 ?_);(case hw3 => rfl);(case hx3 => simp [Act.put]);(case hy3 => simp [Act.put])))
           refine HKn.out.mono ?_
           rintro e wk ⟨rfl,hBk⟩
           have HBf := Lib.hid (HBZ.out.trans (hBk.mono HBZ.out.size))
           clear hBk
           go_wp2_with (fail)
           go_ret
           exact ⟨rfl,HBf.out⟩
         ·have hn := HNn.out
          rw [if_neg hxe] at hn
          have hct : x.2.ct = 0 := by
           obtain ⟨lk,gk⟩ := HBt.out.i.rw 0 R HR.out.1
           exact (gk.p.lvl HX.out).2
          have hn2 := nd_same hn hct
          have hX4 := HX3.out
          rw [hn2] at hX4
          have HX4 := Lib.hid hX4
          have hqa : ¬ aq = xa := by have h1 := HAq.out;have h2 := HXa.out;omega
          have e1 : (aq == xa) = false := beq_eq_false_iff_ne.2 hqa
          have e2 : (aq != xa) = true := bne_iff_ne.2 hqa
          have HKn := Lib.hid (known_v wZ)
          clear hxe hn HNn hct hn2 hX4 HX3
          go_wp2_with (first
           | ((with_reducible refine wpList_load_ndg (o := ⟨some 184,_,_,_,_,_⟩) ?hg (.tmp 25) ?ho x1 x.2 ?hx ?hb ?_);(case hg => rfl);(case ho => rfl);(case hx => exact ev_tmp (by simp));(case hb => exact HX4.out))
           | ((with_reducible refine wpList_load_partg (o := ⟨some 186,_,_,_,_,_⟩) ?hg (.tmp 185) ?ho vb 1 ?hx (ndCells x.2) ?hc ?hi ?_);(case hg => rfl);(case ho => rfl);(case hx => exact ev_tmp (by simp));(case hc => exact HVZ.out);(case hi => exact HInX.out))
           | ((with_reducible refine wpList_eq_ndg _ 184 186 _ _ _ _ x.2 ?hw3 ?hx3 ?hy3 ?_);(case hw3 => rfl);(case hx3 => simp [Act.put]);(case hy3 => simp [Act.put])))
          refine HKn.out.mono ?_
          rintro e wk ⟨rfl,hBk⟩
          have HBf := Lib.hid (HBZ.out.trans (hBk.mono HBZ.out.size))
          clear hBk
          go_wp2_with (fail)
          go_ret
          exact ⟨rfl,HBf.out⟩
end Go.Proofs.YtodgfbjjjgohgaaGreat
