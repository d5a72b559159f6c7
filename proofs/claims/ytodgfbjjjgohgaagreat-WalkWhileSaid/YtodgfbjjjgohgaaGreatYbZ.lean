/-
 THE CHAPTER'S ROW: leveelaw14.known,a contract.
-/
import Derived.Test.YtodgfbjjjgohgaaGreatYgZ
import Derived.Test.YtodgfbjjjgohgaaGreatYjZ
namespace Go.Proofs.YtodgfbjjjgohgaaGreat
open Go.RowKit
attribute [local go_sem] Oper.semAt_some
set_option linter.unusedVariables false

theorem built25 : (buildA 2 [5,9] 4 0).map (fun d => d.lv.map (·.length)) = some [1] := by kernel_rfl
theorem ris25 : risR 40 [] [5,9] = [5,9] := by kernel_rfl
structure Kn25 (d : AD) (a : Nat) (n : Nd) : Prop where
 img : ImgOk d.L 2
 lv : d.lv = [[(a,n)]]
 one : OneN (wordsB d.L (128 * (2 + 1))) (a : Int) n
 z : ndCells (oneR n) = ndCells n
 l0 : n.lv = 0
theorem kn25 {d : AD} (h : buildA 2 [5,9] 4 0 = some d) : ∃ a n,Kn25 d a n := by
 obtain ⟨l0,kd,cn,hB⟩ := buildA_st (by decide) (by decide) (by decide) (by decide) (by decide) h
 have h1 := built25
 rw [h] at h1
 have h2 : d.lv.map (·.length) = [1] := by simpa using h1
 obtain ⟨R,hlv⟩ : ∃ R,d.lv = [R] := by
  have h3 := congrArg List.length h2
  rw [List.length_map] at h3
  exact List.length_eq_one_iff.1 h3
 rw [hlv] at h2
 obtain ⟨x,rfl⟩ : ∃ x,R = [x] := by
  exact List.length_eq_one_iff.1 (by simpa using h2)
 obtain ⟨a,n⟩ := x
 have hR : d.lv[0]? = some [(a,n)] := by rw [hlv];rfl
 obtain ⟨l,g⟩ := hB.i.rw 0 _ hR
 have hx : ([(a,n)] : List (Nat × Nd))[0]? = some (a,n) := rfl
 have hl := g.p.lvl hx
 have hn := g.p.nx hx
 have hat := hB.at hR (x := (a,n)) (List.mem_cons_self)
 have hz := g.p.z g.e (by decide) hx
 have hm : memA d = wordsB d.L (128 * (2 + 1)) := by unfold memA;rw [hB.sl]
 have htop : topA d = a := by unfold topA;rw [hlv];rfl
 obtain ⟨r1,r2⟩ := hB.rootW
 rw [htop] at r2
 rw [hm] at r1 r2 hat
 have hl0 : n.lv = 0 := hl.1
 refine ⟨a,n,?_,hlv,⟨r1,r2,fun q hq => hat.rd hq,fun q hq => hat.er hq,by omega,hn,by rw [<- hm];exact memA_u64 d⟩,?_,hl0⟩
 ·have := hB.i.n.i.img (by rw [hB.sl];decide)
  rw [hB.sl] at this;exact this
 ·have h5 := found_z hz (W := fullW n) (by omega) (fun _ _ => rfl)
  rw [h5.2.2] at h5
  exact h5.2.1
structure Kn25W (w : World) (ab gb cb g cap rb cr : Nat) (L : List UInt8) (a : Nat) (n : Nd) : Prop where
 b0 : w.cell? ⟨ab,0,none⟩ = some (.slice (some ⟨gb,0,none⟩) L.length cb)
 gl : gb < w.heap.size
 cl : L.length <= cb
 by_ : BytesAt w gb 0 L
 c1 : w.cell? ⟨ab,7,none⟩ = some (.slice (some ⟨g,0,none⟩) 1 cap)
 c2 : w.cell? ⟨g,0,none⟩ = some (.slice (some ⟨rb,0,none⟩) 1 cr)
 c3 : w.cell? ⟨rb,0,none⟩ = some (.int .u64 (a : Int))
 c4 : ∀ j u,(ndCells n)[j]? = some u -> w.cell? ⟨rb,1 + j,none⟩ = some u
 lt : ab < w.heap.size /\ g < w.heap.size /\ rb < w.heap.size
theorem kn25_v {w : World} {e : Ending} {w' : World} (h : LayP w w' e 2 4 0 [5,9]) :
  ∃ d a n ab gb cb g cap rb cr,Kn25 d a n /\ e = .returned (.pointer (some ⟨ab,0,none⟩)) /\ Kn25W w' ab gb cb g cap rb cr d.L a n /\ Below w.heap.size w w' := by
 obtain ⟨v,rfl,h1,hB⟩ := h
 rcases h1 with ⟨h1,_⟩ | ⟨_,h2⟩
 ·cases h1
 ·rw [ris25] at h2
  rcases h2 with ⟨h3,_⟩ | ⟨d,ab,gb,cb,vv,h3,rfl,hA,hL,hO,hN,_,_⟩
  ·have h3' : buildA 2 [5,9] 4 0 = none := h3
   have := built25
   rw [h3'] at this;cases this
  ·obtain ⟨a,n,hk⟩ := kn25 h3
   obtain ⟨vs,ho,hr⟩ := hL.ex
   rw [hk.lv] at ho hr
   obtain ⟨rb,cr,hv0,hc1,hc2,_,_,hrow⟩ := hr 0 [(a,n)] rfl
   obtain ⟨g,cap,rfl,_,hg,_,_,_,hc,_⟩ := own_shape ho (by simp)
   refine ⟨d,a,n,ab,gb,cb,g,cap,rb,cr,hk,rfl,⟨(hA.a.cell 0).trans hA.c,hA.b.lt,?_,fun i hi => ?_,(hA.a.cell 7).trans rfl,(hc 0 (by simp)).trans hv0,?_,fun j u hj => ?_,hA.a.lt,hg,hrow.lt⟩,hB⟩
   ·exact hN
   ·rw [Nat.zero_add,hA.b.cell,bcA_get];simp [hi]
   ·have := hrow.cell (j := 0) (k := 0) rfl (by decide)
    rw [Nat.zero_mul] at this
    exact this.trans rfl
   ·have hj21 : j < 21 := by have := (Array.getElem?_eq_some_iff.1 hj).1;rwa [ndCells_size] at this
    have := hrow.cell (j := 0) (k := 1 + j) rfl (by omega)
    rw [Nat.zero_mul,Nat.zero_add] at this
    rw [this,atC_succ];exact hj
theorem Kn25W.below {w w' : World} {ab gb cb g cap rb cr : Nat} {L : List UInt8} {a : Nat} {n : Nd} (h : Kn25W w ab gb cb g cap rb cr L a n) (hB : Below w.heap.size w w') : Kn25W w' ab gb cb g cap rb cr L a n := by
 obtain ⟨l1,l2,l3⟩ := h.lt
 have := hB.size
 exact ⟨(hB.cell (p := ⟨ab,0,none⟩) l1).trans h.b0,by have := h.gl;omega,h.cl,fun i hi => (hB.cell (p := ⟨gb,0 + i,none⟩) h.gl).trans (h.by_ i hi),(hB.cell (p := ⟨ab,7,none⟩) l1).trans h.c1,(hB.cell (p := ⟨g,0,none⟩) l2).trans h.c2,(hB.cell (p := ⟨rb,0,none⟩) l3).trans h.c3,fun j u hj => (hB.cell (p := ⟨rb,1 + j,none⟩) l3).trans (h.c4 j u hj),by omega,by omega,by omega⟩
set_option maxRecDepth 100000 in
set_option maxHeartbeats 16000000 in
theorem known_v (w : World) : Calls Tryz.prog 8 #[] w fun e w' => e = .returned (.bool true) /\ Below w.heap.size w w' := by
 have hb0 := Blk.new w #[.int .u64 5,.int .u64 9] 25
 have HB0 := Lib.hid (show Below w.heap.size w (w.alloc (.cells #[.int .u64 5,.int .u64 9] 25)) from (Below.refl _ w).alloc (Nat.le_refl _) _)
 have HLay := Lib.hid (show Calls Tryz.prog 7 #[.agg #[.int .i64 2,.slice (some ⟨w.heap.size,0,none⟩) 2 2,.int .i64 4,.int .i64 0]] (w.alloc (.cells #[.int .u64 5,.int .u64 9] 25)) fun e w' => LayP (w.alloc (.cells #[.int .u64 5,.int .u64 9] 25)) w' e 2 4 0 [5,9] from
  lay_v _ (some ⟨w.heap.size,0,none⟩) 2 2 4 0 [5,9] ⟨rfl,fun _ => ⟨_,rfl,by simp,fun j u hj => by
   rw [show (⟨w.heap.size,0,none⟩ : Addr).add j = ⟨w.heap.size,0 + j,none⟩ by rw [Addr.add_lit],hb0.cell,Nat.zero_add,<- hj]
   simp⟩⟩ (by decide))
 clear hb0
 go_enter Tryz.func8,Tryz.ntmps8
 go_wp2_with (fail)
 refine HLay.out.mono ?_
 intro e w1 hL
 obtain ⟨d,a,n,ab,gb,cb,g,cap,rb,cr,hk,rfl,hW,hB1⟩ := kn25_v hL
 have HK := Lib.hid hk
 obtain ⟨ln,hln⟩ : ∃ ln,d.L.length = ln := ⟨_,rfl⟩
 have HOn := Lib.hid (show Calls Tryz.prog 9 #[.slice (some ⟨gb,0,none⟩) ln cb,.int .i64 1] w1 fun e w' => OnP w1 w' e d.L 2 from by
  rw [<- hln];exact on_v w1 gb cb d.L 2 1 hk.img hW.cl hW.gl hW.by_ (by decide))
 have c0 := hW.b0
 rw [hln] at c0
 have HW := Lib.hid hW
 have HB1 := Lib.hid (HB0.out.trans (hB1.mono HB0.out.size))
 clear hL hk hln hW hB1 HLay HB0
 go_wp2_with (fail)
 refine HOn.out.mono ?_
 rintro e w2 ⟨xb,mb,S,rfl,hO⟩
 have HO := Lib.hid hO
 have HS2 := Lib.hid (show ∀ i,S i -> w1.heap.size <= i /\ i < w2.heap.size from fun i hi => ⟨hO.lo i hi,MemP.lt hO.m hi⟩)
 have HX2 := Lib.hid (show xb < w2.heap.size /\ w1.heap.size <= xb /\ ¬ S xb from ⟨by obtain ⟨C,h,_⟩ := hO.x;exact h.lt,hO.xl,hO.ne⟩)
 clear hO HOn c0
 go_wp2_with (fail)
 refine (wnew_v (some ⟨xb,0,none⟩) 0 7 0 w2).mono ?_
 rintro e w3 ⟨rfl,hb3,hB3⟩
 obtain ⟨k1,hk1⟩ : ∃ k1,w2.heap.size = k1 := ⟨_,rfl⟩
 rw [hk1] at hb3 hB3 ⊢
 have HK1 := Lib.hid hk1
 have HB3 := Lib.hid (And.intro hb3 hB3)
 clear hk1 hb3 hB3
 go_wp2_with (fail)
 refine (wnew_v (some ⟨xb,0,none⟩) 0 7 1 w3).mono ?_
 rintro e w4 ⟨rfl,hb4,hB4⟩
 obtain ⟨k2,hk2⟩ : ∃ k2,w3.heap.size = k2 := ⟨_,rfl⟩
 rw [hk2] at hb4 hB4 ⊢
 have HNe := Lib.hid (show k1 < k2 /\ xb < k1 /\ ¬ S k1 /\ ¬ S k2 /\ w1.heap.size <= k1 from by
  have h1 := HB3.out.1.lt
  have h2 := HK1.out
  have h3 := HX2.out
  refine ⟨by omega,by omega,fun h => ?_,fun h => ?_,by omega⟩
  ·have := (HS2.out _ h).2;omega
  ·have := (HS2.out _ h).2;omega)
 have HD1 := Lib.hid (show Calls Tryz.prog 11 #[.pointer (some ⟨xb,0,none⟩),.pointer (some ⟨k1,0,none⟩),.int .i64 200] w4 fun e w' => DoneE e /\ PhE w' k1 xb mb S (wordsB d.L (128 * (2 + 1))) 0 0 0 0 (a : Int) n /\ Keeps (fun i => i = k1 ∨ S i) w4 w' from by
  have hB24 : Below w2.heap.size w2 w4 := by
   rw [HK1.out];exact HB3.out.2.trans (hB4.mono (Nat.le_of_lt HNe.out.1))
  obtain ⟨C,hx,hC⟩ := HO.out.x
  refine done_v w4 k1 xb mb S _ 0 0 0 0 7 0 (a : Int) n ⟨HB3.out.1.below hB4 HNe.out.1,rfl,⟨C,hx.below hB24 HX2.out.1,hC⟩,⟨_,_,_,_,HO.out.m.below hB24⟩,by have := HNe.out;omega,HNe.out.2.2.1,HX2.out.2.2⟩ HK.out.one (by decide) (by rw [HK.out.l0];decide))
 have HB4 := Lib.hid (And.intro hb4 (show Below w1.heap.size w1 w4 from HO.out.b.trans (Below.mono (show Below w2.heap.size w2 w4 from by rw [HK1.out];exact HB3.out.2.trans (hB4.mono (Nat.le_of_lt HNe.out.1))) HO.out.b.size)))
 have HX4 := Lib.hid (show ∃ C,Blk w4 xb C 88 /\ C[0]? = some (.pointer (some ⟨mb,0,none⟩)) from by
  obtain ⟨C,hx,hC⟩ := HO.out.x
  exact ⟨C,hx.below (show Below w2.heap.size w2 w4 from by rw [HK1.out];exact HB3.out.2.trans (hB4.mono (Nat.le_of_lt HNe.out.1))) HX2.out.1,hC⟩)
 clear hk2 hb4 hB4 HB3
 go_wp2_with (fail)
 refine HD1.out.mono ?_
 rintro e w5 ⟨⟨cc,sm,rfl⟩,hE,hk5⟩
 obtain ⟨q1,hq1,ho1,he1,ha1,hn1,hl1⟩ := hE
 have HB5 := Lib.hid (show Below w1.heap.size w1 w5 from ⟨hk5.os.trans HB4.out.2.os,hk5.tape.trans HB4.out.2.tape,hk5.output.trans HB4.out.2.output,Nat.le_trans HB4.out.2.size hk5.size,fun i hi => (hk5.block i (Nat.lt_of_lt_of_le hi HB4.out.2.size) (fun h => by rcases h with h | h;(have := HNe.out;omega);(have := (HS2.out i h).1;omega))).trans (HB4.out.2.block i hi)⟩)
 have HD2 := Lib.hid (show Calls Tryz.prog 11 #[.pointer (some ⟨xb,0,none⟩),.pointer (some ⟨k2,0,none⟩),.int .i64 200] w5 fun e w' => DoneE e /\ PhE w' k2 xb mb S (wordsB d.L (128 * (2 + 1))) 0 0 0 1 (a : Int) n /\ Keeps (fun i => i = k2 ∨ S i) w5 w' from by
  obtain ⟨C,hx,hC⟩ := HX4.out
  refine done_v w5 k2 xb mb S _ 0 0 0 0 7 1 (a : Int) n ⟨HB4.out.1.kept hk5 (fun h => by rcases h with h | h;(have := HNe.out;omega);exact HNe.out.2.2.2.1 h),rfl,⟨C,hx.kept hk5 (fun h => by rcases h with h | h;(have := HNe.out;omega);exact HX2.out.2.2 h),hC⟩,hq1.m,by have := HNe.out;omega,HNe.out.2.2.2.1,HX2.out.2.2⟩ HK.out.one (by decide) (by rw [HK.out.l0];decide))
 have HQ1 := Lib.hid (And.intro hq1.b (And.intro ho1 (And.intro he1 (And.intro ha1 (And.intro hn1 hl1)))))
 clear hq1 ho1 he1 ha1 hn1 hl1 hk5 HB4 HX4
 go_wp2_with (fail)
 refine HD2.out.mono ?_
 rintro e w6 ⟨⟨cc2,sm2,rfl⟩,hE,hk6⟩
 obtain ⟨q2,hq2,ho2,he2,ha2,hn2,hl2⟩ := hE
 have HB6 := Lib.hid (show Below w1.heap.size w1 w6 from ⟨hk6.os.trans HB5.out.os,hk6.tape.trans HB5.out.tape,hk6.output.trans HB5.out.output,Nat.le_trans HB5.out.size hk6.size,fun i hi => (hk6.block i (Nat.lt_of_lt_of_le hi HB5.out.size) (fun h => by rcases h with h | h;(have := HNe.out;omega);(have := (HS2.out i h).1;omega))).trans (HB5.out.block i hi)⟩)
 have hz := HK.out.z
 have hl0 := HK.out.l0
 have HA1 := Lib.hid (show Calls Tryz.prog 17 #[.pointer (some ⟨k1,0,none⟩)] w6 fun e w' => e = .returned (.tuple #[.int .u64 (a : Int),.agg (ndCells n),.int .i64 0]) /\ Below w6.heap.size w6 w' from by
  obtain ⟨h1,h2,h3,h4,h5,h6⟩ := HQ1.out
  rw [hl0,if_neg (by decide)] at h3
  have := wat_v w6 k1 q1 0 (h1.kept hk6 (fun h => by rcases h with h | h;(have := HNe.out;omega);exact HNe.out.2.2.1 h)) h6 h2 (.inl h3)
  rw [h3,h4,h5,hz] at this
  exact this)
 have HA2 := Lib.hid (show ∀ W,Below w6.heap.size w6 W -> Calls Tryz.prog 17 #[.pointer (some ⟨k2,0,none⟩)] W fun e w' => e = .returned (.tuple #[.int .u64 (a : Int),.agg (ndCells n),.int .i64 5]) /\ Below W.heap.size W w' from fun W hB => by
  rw [hl0,if_pos (by decide)] at he2
  have := wat_v W k2 q2 0 (hq2.b.kept (Keeps.of_below' hB) (fun h => h)) hl2 ho2 (.inr he2)
  rw [he2,ha2,hn2,hz] at this
  exact this)
 clear hq2 ho2 he2 ha2 hn2 hl2 hk6 hz hl0 HB5 HQ1
 go_wp2_with (fail)
 refine HA1.out.mono ?_
 rintro e w7 ⟨rfl,hB7⟩
 have hz := Blk.new w7 (ndCells nd0) 46
 have hzr := hz.row (ndCells n)
 have kx : Below w6.heap.size w6 ((w7.alloc (.cells (ndCells nd0) 46)).setRow w7.heap.size (ndCells n)) := below_setRow (hB7.alloc hB7.size _) hB7.size _
 obtain ⟨x1,hx1⟩ : ∃ x1,w7.heap.size = x1 := ⟨_,rfl⟩
 rw [hx1] at hz hzr kx
 have HX1z := Lib.hid hx1
 have HZ := Lib.hid hz
 obtain ⟨w8,hw8⟩ : ∃ w8,(w7.alloc (.cells (ndCells nd0) 46)).setRow x1 (ndCells n) = w8 := ⟨_,rfl⟩
 have HW8 := Lib.hid hw8
 rw [hw8] at hzr kx
 have HX8 := Lib.hid hzr
 have HK8 := Lib.hid kx
 have HA2b := Lib.hid (HA2.out w8 kx)
 clear hz hzr hx1 hw8 kx HA1 hB7 HA2
 go_upto_region 11 with (first
  | ((with_reducible refine wpList_alloc_ndAt (o := ⟨some 6,_,_,_,_,_⟩) rfl rfl x1 ?hz ?_);(case hz => exact HX1z.out))
  | ((with_reducible refine wpList_store_ndc (o := ⟨none,.store 46 (.tmp 6) (.tmp 37),_,_,_,_⟩) ?hgc (.tmp 6) (.tmp 37) ?hoc x1 (ndCells n) n nd0 ?hxc ?hyc ?hbc ?hmc ?_);(case hgc => rfl);(case hoc => rfl);(case hxc => exact ev_tmp (by simp));(case hyc => exact ev_tmp (by simp));(case hmc => rfl);(case hbc => exact HZ.out)))
 rw [HW8.out]
 clear HW8 HZ HX1z
 go_wp2_with (fail)
 refine HA2b.out.mono ?_
 rintro e w9 ⟨rfl,hB9⟩
 have hz := Blk.new w9 (ndCells nd0) 46
 have kx : Below w8.heap.size w8 ((w9.alloc (.cells (ndCells nd0) 46)).setRow w9.heap.size (ndCells n)) := below_setRow (hB9.alloc hB9.size _) hB9.size _
 obtain ⟨x2,hx2⟩ : ∃ x2,w9.heap.size = x2 := ⟨_,rfl⟩
 rw [hx2] at hz kx
 have HX2z := Lib.hid hx2
 have HZ := Lib.hid hz
 obtain ⟨W0,hW0⟩ : ∃ W0,(w9.alloc (.cells (ndCells nd0) 46)).setRow x2 (ndCells n) = W0 := ⟨_,rfl⟩
 have HWz := Lib.hid hW0
 rw [hW0] at kx
 have HX1 := Lib.hid (HX8.out.below kx HX8.out.lt)
 have HB10 := Lib.hid (show Below w1.heap.size w1 W0 from HB6.out.trans ((HK8.out.trans (kx.mono HK8.out.size)).mono HB6.out.size))
 clear hz kx hx2 hW0 HA2b hB9 HK8 HX8
 go_upto_region 12 with (first
  | ((with_reducible refine wpList_alloc_ndAt (o := ⟨some 9,_,_,_,_,_⟩) rfl rfl x2 ?hz ?_);(case hz => exact HX2z.out))
  | ((with_reducible refine wpList_store_ndc (o := ⟨none,.store 46 (.tmp 9) (.tmp 43),_,_,_,_⟩) ?hgd (.tmp 9) (.tmp 43) ?hod x2 (ndCells n) n nd0 ?hxd ?hyd ?hbd ?hmd ?_);(case hgd => rfl);(case hod => rfl);(case hxd => exact ev_tmp (by simp));(case hyd => exact ev_tmp (by simp));(case hmd => rfl);(case hbd => exact HZ.out)))
 rw [HWz.out]
 clear HWz HZ HX2z
 have hw0 := HW.out.below HB10.out
 have HLt := Lib.hid hw0.lt
 have HC := Lib.hid (And.intro hw0.c1 (And.intro hw0.c2 (And.intro hw0.c3 hw0.c4)))
 clear hw0
 refine wp_region_vals [Is (.int .u64 (a : Int)),Is (.pointer (some ⟨ab,0,none⟩)),Is (.pointer (some ⟨ab,0,none⟩)),Is (.pointer (some ⟨ab,7,none⟩)),Is (.slice (some ⟨g,0,none⟩) 1 cap),Is (.pointer (some ⟨g,0,none⟩)),Is (.slice (some ⟨rb,0,none⟩) 1 cr),Is (.pointer (some ⟨rb,0,none⟩)),Is (.pointer (some ⟨rb,0,none⟩)),Is (.int .u64 (a : Int)),Is (.bool true),Is (.bool true),Is (.agg (ndCells n)),Is (.pointer (some ⟨ab,0,none⟩)),Is (.pointer (some ⟨ab,0,none⟩)),Is (.pointer (some ⟨ab,7,none⟩)),Is (.slice (some ⟨g,0,none⟩) 1 cap),Is (.pointer (some ⟨g,0,none⟩)),Is (.slice (some ⟨rb,0,none⟩) 1 cr),Is (.pointer (some ⟨rb,0,none⟩)),Is (.pointer (some ⟨rb,1,none⟩)),Is (.agg (ndCells n)),Is (.bool true),Is (.bool true),Is (.bool true),Is (.int .i64 0),Is (.bool true),Is (.bool true),Is (.bool true),Is (.int .u64 (a : Int)),Is (.int .u64 (a : Int)),Is (.bool true),Is (.bool true),Is (.bool true),Is (.int .i64 5),Is (.bool true),Is (.bool true),Is (.bool true)]
  (fun _ _ _ => True) (fun _ W => Below W0.heap.size W0 W) (by kernel_rfl) (by kernel_rfl) (by kernel_rfl) ?hst ?h0 ⟨?o0,?o1,?o2,?o3,?o4,?o5,?o6,?o7,?o8,?o9,?o10,?o11,?o12,?o13,?o14,?o15,?o16,?o17,?o18,?o19,?o20,?o21,?o22,?o23,?o24,?o25,?o26,?o27,?o28,?o29,?o30,?o31,?o32,?o33,?o34,?o35,?o36,?o37,trivial⟩ ?he
 any_goals (intro L vs A W H hf hd K hK)
 case hst => repeat' (first | exact trivial | refine ⟨fun _ _ _ _ _ _ h _ => h,?_⟩)
 case h0 =>
  exact (Below.refl _ W0).drew
 case o0 => have e5 : A.tmps[5]?.getD undef = .int .u64 (a : Int) := H.old 5 (by kernel_rfl);go_simp;exact hK _ _ (trivial) rfl (H.glob)
 case o1 => have e1 : A.tmps[1]?.getD undef = .pointer (some ⟨ab,0,none⟩) := H.old 1 (by kernel_rfl);go_simp;exact hK _ _ (trivial) rfl (H.glob)
 case o2 => have e46 := H.iz hd 1 46 rfl rfl rfl (by kernel_rfl);go_simp;exact hK _ _ (trivial) rfl (H.glob)
 case o3 => have e47 := H.iz hd 2 47 rfl rfl rfl (by kernel_rfl);go_simp;exact hK _ _ (trivial) rfl (H.glob)
 case o4 => have e48 := H.iz hd 3 48 rfl rfl rfl (by kernel_rfl);have d : W.cell? ⟨ab,7,none⟩ = some (.slice (some ⟨g,0,none⟩) 1 cap) := (H.glob.cell (p := ⟨ab,7,none⟩) HLt.out.1).trans HC.out.1;go_simp;exact hK _ _ (trivial) rfl (H.glob)
 case o5 => have e49 := H.iz hd 4 49 rfl rfl rfl (by kernel_rfl);go_simp;exact hK _ _ (trivial) rfl (H.glob)
 case o6 => have e50 := H.iz hd 5 50 rfl rfl rfl (by kernel_rfl);have d : W.cell? ⟨g,0,none⟩ = some (.slice (some ⟨rb,0,none⟩) 1 cr) := (H.glob.cell (p := ⟨g,0,none⟩) HLt.out.2.1).trans HC.out.2.1;go_simp;exact hK _ _ (trivial) rfl (H.glob)
 case o7 => have e51 := H.iz hd 6 51 rfl rfl rfl (by kernel_rfl);go_simp;exact hK _ _ (trivial) rfl (H.glob)
 case o8 => have e52 := H.iz hd 7 52 rfl rfl rfl (by kernel_rfl);go_simp;exact hK _ _ (trivial) rfl (H.glob)
 case o9 => have e53 := H.iz hd 8 53 rfl rfl rfl (by kernel_rfl);have d : W.cell? ⟨rb,0,none⟩ = some (.int .u64 (a : Int)) := (H.glob.cell (p := ⟨rb,0,none⟩) HLt.out.2.2).trans HC.out.2.2.1;go_simp;exact hK _ _ (trivial) rfl (H.glob)
 case o10 => have e45 := H.iz hd 0 45 rfl rfl rfl (by kernel_rfl);have e54 := H.iz hd 9 54 rfl rfl rfl (by kernel_rfl);go_simp;exact hK _ _ (trivial) rfl (H.glob)
 case o11 => have e55 := H.iz hd 10 55 rfl rfl rfl (by kernel_rfl);go_simp;exact hK _ _ (trivial) rfl (H.glob)
 case o12 => have e56 := H.iz hd 11 56 rfl rfl rfl (by kernel_rfl);refine if_wanted (j := 11) (s := 56) rfl rfl rfl e56 rfl ?_;have e6 : A.tmps[6]?.getD undef = .pointer (some ⟨x1,0,none⟩) := H.old 6 (by kernel_rfl);exact wp_load_nd (.tmp 6) rfl x1 n (ev_tmp e6) (HX1.out.kept (Keeps.of_below' H.glob) (fun h => h)) (hK _ _ trivial rfl H.glob)
 case o13 => have e56 := H.iz hd 11 56 rfl rfl rfl (by kernel_rfl);refine if_wanted (j := 11) (s := 56) rfl rfl rfl e56 rfl ?_;have e1 : A.tmps[1]?.getD undef = .pointer (some ⟨ab,0,none⟩) := H.old 1 (by kernel_rfl);go_simp;exact hK _ _ (trivial) rfl (H.glob)
 case o14 => have e56 := H.iz hd 11 56 rfl rfl rfl (by kernel_rfl);refine if_wanted (j := 11) (s := 56) rfl rfl rfl e56 rfl ?_;have e58 := H.iz hd 13 58 rfl rfl rfl (by kernel_rfl);go_simp;exact hK _ _ (trivial) rfl (H.glob)
 case o15 => have e56 := H.iz hd 11 56 rfl rfl rfl (by kernel_rfl);refine if_wanted (j := 11) (s := 56) rfl rfl rfl e56 rfl ?_;have e59 := H.iz hd 14 59 rfl rfl rfl (by kernel_rfl);go_simp;exact hK _ _ (trivial) rfl (H.glob)
 case o16 => have e56 := H.iz hd 11 56 rfl rfl rfl (by kernel_rfl);refine if_wanted (j := 11) (s := 56) rfl rfl rfl e56 rfl ?_;have e60 := H.iz hd 15 60 rfl rfl rfl (by kernel_rfl);have d : W.cell? ⟨ab,7,none⟩ = some (.slice (some ⟨g,0,none⟩) 1 cap) := (H.glob.cell (p := ⟨ab,7,none⟩) HLt.out.1).trans HC.out.1;go_simp;exact hK _ _ (trivial) rfl (H.glob)
 case o17 => have e56 := H.iz hd 11 56 rfl rfl rfl (by kernel_rfl);refine if_wanted (j := 11) (s := 56) rfl rfl rfl e56 rfl ?_;have e61 := H.iz hd 16 61 rfl rfl rfl (by kernel_rfl);go_simp;exact hK _ _ (trivial) rfl (H.glob)
 case o18 => have e56 := H.iz hd 11 56 rfl rfl rfl (by kernel_rfl);refine if_wanted (j := 11) (s := 56) rfl rfl rfl e56 rfl ?_;have e62 := H.iz hd 17 62 rfl rfl rfl (by kernel_rfl);have d : W.cell? ⟨g,0,none⟩ = some (.slice (some ⟨rb,0,none⟩) 1 cr) := (H.glob.cell (p := ⟨g,0,none⟩) HLt.out.2.1).trans HC.out.2.1;go_simp;exact hK _ _ (trivial) rfl (H.glob)
 case o19 => have e56 := H.iz hd 11 56 rfl rfl rfl (by kernel_rfl);refine if_wanted (j := 11) (s := 56) rfl rfl rfl e56 rfl ?_;have e63 := H.iz hd 18 63 rfl rfl rfl (by kernel_rfl);go_simp;exact hK _ _ (trivial) rfl (H.glob)
 case o20 => have e56 := H.iz hd 11 56 rfl rfl rfl (by kernel_rfl);refine if_wanted (j := 11) (s := 56) rfl rfl rfl e56 rfl ?_;have e64 := H.iz hd 19 64 rfl rfl rfl (by kernel_rfl);go_simp;exact hK _ _ (trivial) rfl (H.glob)
 case o21 => have e56 := H.iz hd 11 56 rfl rfl rfl (by kernel_rfl);refine if_wanted (j := 11) (s := 56) rfl rfl rfl e56 rfl ?_;have e65 := H.iz hd 20 65 rfl rfl rfl (by kernel_rfl);refine wp_ld_part 46 (.tmp 65) rfl rb 1 (ev_tmp e65) (ndCells n) _ (fun j u hj => ?_) Tryz.underlying46 rfl (info27 n) (hK _ _ trivial rfl H.glob);rw [H.glob.cell (p := ⟨rb,1 + j,none⟩) HLt.out.2.2];exact HC.out.2.2.2 j u hj
 case o22 => have e56 := H.iz hd 11 56 rfl rfl rfl (by kernel_rfl);refine if_wanted (j := 11) (s := 56) rfl rfl rfl e56 rfl ?_;have e57 := H.iz hd 12 57 rfl rfl rfl (by kernel_rfl);have e66 := H.iz hd 21 66 rfl rfl rfl (by kernel_rfl);exact wp_eq_nd _ 57 66 _ _ _ _ n e57 e66 (hK _ _ trivial rfl H.glob)
 case o23 => have e56 := H.iz hd 11 56 rfl rfl rfl (by kernel_rfl);have e67 := H.iz hd 22 67 rfl rfl rfl (by kernel_rfl);go_simp;exact hK _ _ (trivial) rfl (H.glob)
 case o24 => have e68 := H.iz hd 23 68 rfl rfl rfl (by kernel_rfl);go_simp;exact hK _ _ (trivial) rfl (H.glob)
 case o25 => have e69 := H.iz hd 24 69 rfl rfl rfl (by kernel_rfl);refine if_wanted (j := 24) (s := 69) rfl rfl rfl e69 rfl ?_;have e7 : A.tmps[7]?.getD undef = .int .i64 0 := H.old 7 (by kernel_rfl);go_simp;exact hK _ _ (trivial) rfl (H.glob)
 case o26 => have e69 := H.iz hd 24 69 rfl rfl rfl (by kernel_rfl);refine if_wanted (j := 24) (s := 69) rfl rfl rfl e69 rfl ?_;have e70 := H.iz hd 25 70 rfl rfl rfl (by kernel_rfl);go_simp;exact hK _ _ (trivial) rfl (H.glob)
 case o27 => have e69 := H.iz hd 24 69 rfl rfl rfl (by kernel_rfl);have e71 := H.iz hd 26 71 rfl rfl rfl (by kernel_rfl);go_simp;exact hK _ _ (trivial) rfl (H.glob)
 case o28 => have e72 := H.iz hd 27 72 rfl rfl rfl (by kernel_rfl);go_simp;exact hK _ _ (trivial) rfl (H.glob)
 case o29 => have e73 := H.iz hd 28 73 rfl rfl rfl (by kernel_rfl);refine if_wanted (j := 28) (s := 73) rfl rfl rfl e73 rfl ?_;have e8 : A.tmps[8]?.getD undef = .int .u64 (a : Int) := H.old 8 (by kernel_rfl);go_simp;exact hK _ _ (trivial) rfl (H.glob)
 case o30 => have e73 := H.iz hd 28 73 rfl rfl rfl (by kernel_rfl);refine if_wanted (j := 28) (s := 73) rfl rfl rfl e73 rfl ?_;have e5 : A.tmps[5]?.getD undef = .int .u64 (a : Int) := H.old 5 (by kernel_rfl);go_simp;exact hK _ _ (trivial) rfl (H.glob)
 case o31 => have e73 := H.iz hd 28 73 rfl rfl rfl (by kernel_rfl);refine if_wanted (j := 28) (s := 73) rfl rfl rfl e73 rfl ?_;have e74 := H.iz hd 29 74 rfl rfl rfl (by kernel_rfl);have e75 := H.iz hd 30 75 rfl rfl rfl (by kernel_rfl);go_simp;exact hK _ _ (trivial) rfl (H.glob)
 case o32 => have e73 := H.iz hd 28 73 rfl rfl rfl (by kernel_rfl);have e76 := H.iz hd 31 76 rfl rfl rfl (by kernel_rfl);go_simp;exact hK _ _ (trivial) rfl (H.glob)
 case o33 => have e77 := H.iz hd 32 77 rfl rfl rfl (by kernel_rfl);go_simp;exact hK _ _ (trivial) rfl (H.glob)
 case o34 => have e78 := H.iz hd 33 78 rfl rfl rfl (by kernel_rfl);refine if_wanted (j := 33) (s := 78) rfl rfl rfl e78 rfl ?_;have e10 : A.tmps[10]?.getD undef = .int .i64 5 := H.old 10 (by kernel_rfl);go_simp;exact hK _ _ (trivial) rfl (H.glob)
 case o35 => have e78 := H.iz hd 33 78 rfl rfl rfl (by kernel_rfl);refine if_wanted (j := 33) (s := 78) rfl rfl rfl e78 rfl ?_;have e79 := H.iz hd 34 79 rfl rfl rfl (by kernel_rfl);go_simp;exact hK _ _ (trivial) rfl (H.glob)
 case o36 => have e78 := H.iz hd 33 78 rfl rfl rfl (by kernel_rfl);have e80 := H.iz hd 35 80 rfl rfl rfl (by kernel_rfl);go_simp;exact hK _ _ (trivial) rfl (H.glob)
 case o37 => have e81 := H.iz hd 36 81 rfl rfl rfl (by kernel_rfl);go_simp;exact hK _ _ (trivial) rfl (H.glob)
 case he =>
  intro vs W hlen hv
  match vs,hlen,hv with
  | x0_ :: x1_ :: x2_ :: x3_ :: x4_ :: x5_ :: x6_ :: x7_ :: x8_ :: x9_ :: x10_ :: x11_ :: x12_ :: x13_ :: x14_ :: x15_ :: x16_ :: x17_ :: x18_ :: x19_ :: x20_ :: x21_ :: x22_ :: x23_ :: x24_ :: x25_ :: x26_ :: x27_ :: x28_ :: x29_ :: x30_ :: x31_ :: x32_ :: x33_ :: x34_ :: x35_ :: x36_ :: x37_ :: [],_,hv =>
  obtain rfl := isv hv 0 rfl rfl;obtain rfl := isv hv 1 rfl rfl;obtain rfl := isv hv 2 rfl rfl;obtain rfl := isv hv 3 rfl rfl;obtain rfl := isv hv 4 rfl rfl;obtain rfl := isv hv 5 rfl rfl;obtain rfl := isv hv 6 rfl rfl;obtain rfl := isv hv 7 rfl rfl;obtain rfl := isv hv 8 rfl rfl;obtain rfl := isv hv 9 rfl rfl;obtain rfl := isv hv 10 rfl rfl;obtain rfl := isv hv 11 rfl rfl;obtain rfl := isv hv 12 rfl rfl;obtain rfl := isv hv 13 rfl rfl;obtain rfl := isv hv 14 rfl rfl;obtain rfl := isv hv 15 rfl rfl;obtain rfl := isv hv 16 rfl rfl;obtain rfl := isv hv 17 rfl rfl;obtain rfl := isv hv 18 rfl rfl;obtain rfl := isv hv 19 rfl rfl;obtain rfl := isv hv 20 rfl rfl;obtain rfl := isv hv 21 rfl rfl;obtain rfl := isv hv 22 rfl rfl;obtain rfl := isv hv 23 rfl rfl;obtain rfl := isv hv 24 rfl rfl;obtain rfl := isv hv 25 rfl rfl;obtain rfl := isv hv 26 rfl rfl;obtain rfl := isv hv 27 rfl rfl;obtain rfl := isv hv 28 rfl rfl;obtain rfl := isv hv 29 rfl rfl;obtain rfl := isv hv 30 rfl rfl;obtain rfl := isv hv 31 rfl rfl;obtain rfl := isv hv 32 rfl rfl;obtain rfl := isv hv 33 rfl rfl;obtain rfl := isv hv 34 rfl rfl;obtain rfl := isv hv 35 rfl rfl;obtain rfl := isv hv 36 rfl rfl;obtain rfl := isv hv 37 rfl rfl
  intro L hall hG
  clear hv hlen
  have HB13 := Lib.hid hG
  clear hG hall
  simp only [fill,if_true]
  simp [Act.put]
  have HBf := Lib.hid (HB1.out.trans ((HB10.out.trans (HB13.out.mono HB10.out.size)).mono HB1.out.size))
  go_wp2_with (fail)
  go_ret
  exact ⟨rfl,HBf.out⟩
end Go.Proofs.YtodgfbjjjgohgaaGreat
