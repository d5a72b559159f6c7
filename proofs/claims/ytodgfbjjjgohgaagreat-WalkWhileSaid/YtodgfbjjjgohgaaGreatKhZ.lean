/-
 A LEVEL LAID: the document's level: a contract.
-/
import Derived.Test.YtodgfbjjjgohgaaGreatKgZ
import Derived.Test.YtodgfbjjjgohgaaGreatKhaZ
import Derived.Test.YtodgfbjjjgohgaaGreatNfZ
namespace Go.Proofs.YtodgfbjjjgohgaaGreat
open Go.RowKit
attribute [local go_sem] Oper.semAt_some
set_option linter.unusedVariables false

theorem rowsG_succ (lv per : Nat) (l : List (Int × Int)) (f fr : Nat) (d : AD) : rowsG lv per l (f + 1) fr d = if (newNodeA d).1 = 0 then none
  else if l.length <= fr + per then some ((newNodeA d).2,[((newNodeA d).1,ndG lv (fr == 0) (newNodeA d).1 (ownG l per fr))])
  else (rowsG lv per l f (fr + per) (newNodeA d).2).map (fun r => (r.1,((newNodeA d).1,ndG lv (fr == 0) (newNodeA d).1 (ownG l per fr)) :: r.2)) := rfl
structure LvR (w wr : World) (ab gb cb : Nat) (d : AD) (v : Value) (lv per : Nat) (l : List (Int × Int)) (k : Nat) (R : List (Nat × Nd)) (dk : AD) (rv : Value) : Prop where
 own : wr.ownsRow w.heap.size 48 22 rv R.length (atcs R)
 len : R.length = k
 lt : k * per < l.length
 ar : ArW wr ab gb cb dk v
 ok : ArOk dk
 kp : Keeps (fun i => i = ab ∨ i = gb) w wr
 eq : rowsG lv per l (l.length + 1) 0 d = (rowsG lv per l (l.length + 1 - k) (k * per) dk).map (fun r => (r.1,R ++ r.2))
theorem LvR.fuel {w wr : World} {ab gb cb : Nat} {d : AD} {v : Value} {lv per : Nat} {l : List (Int × Int)} {k : Nat} {R : List (Nat × Nd)} {dk : AD} {rv : Value} (h : LvR w wr ab gb cb d v lv per l k R dk rv) (hp : 2 <= per) : l.length + 1 - k = (l.length - k) + 1 /\ k <= l.length := by
 have h1 := h.lt
 have h2 : k * 1 <= k * per := Nat.mul_le_mul_left k (by omega)
 omega
structure LvD (w wr : World) (ab gb cb : Nat) (d : AD) (v : Value) (lv per : Nat) (l : List (Int × Int)) (R : List (Nat × Nd)) (dk : AD) (rv : Value) : Prop where
 own : wr.ownsRow w.heap.size 48 22 rv R.length (atcs R)
 ar : ArW wr ab gb cb dk v
 kp : Keeps (fun i => i = ab ∨ i = gb) w wr
 eq : rowsG lv per l (l.length + 1) 0 d = some (dk,R)
theorem LvR.more {w wo : World} {ab gb cb : Nat} {d : AD} {v : Value} {lv per : Nat} {l : List (Int × Int)} {k : Nat} {R : List (Nat × Nd)} {dk : AD} {rv : Value} (h : LvR w wo ab gb cb d v lv per l k R dk rv) (hp : 2 <= per)
  {fr a : Nat} {d1 : AD} (hfr : fr = k * per) (ha : (newNodeA dk).1 = a) (hd1 : (newNodeA dk).2 = d1) (ha0 : a ≠ 0) (nd : Nd) (hnd : nd = ndG lv (fr == 0) a (ownG l per fr)) {w' : World} {rv' : Value}
  (ho : w'.ownsRow w.heap.size 48 22 rv' (R ++ [(a,nd)]).length (atcs (R ++ [(a,nd)]))) (har : ArW w' ab gb cb d1 v) (hk : Keeps (fun i => i = ab ∨ i = gb) w w') :
  (l.length <= fr + per -> LvD w w' ab gb cb d v lv per l (R ++ [(a,nd)]) d1 rv') /\ (¬ l.length <= fr + per -> LvR w w' ab gb cb d v lv per l (k + 1) (R ++ [(a,nd)]) d1 rv') := by
 have h1 := h.eq
 have h2 := h.fuel hp
 rw [h2.1,rowsG_succ lv per l (l.length - k),ha,if_neg ha0,hd1,<- hfr,<- hnd] at h1
 refine ⟨fun hle => ⟨ho,har,hk,?_⟩,fun hle => ⟨ho,by rw [List.length_append,h.len];rfl,?_,har,?_,hk,?_⟩⟩
 ·rw [h1,if_pos hle];rfl
 ·rw [Nat.add_mul,Nat.one_mul,<- hfr];omega
 ·have := (newNodeA_ok h.ok).1
  rw [hd1] at this
  exact this
 ·rw [h1,if_neg hle,show l.length + 1 - (k + 1) = l.length - k by omega,show (k + 1) * per = fr + per by rw [Nat.add_mul,Nat.one_mul,hfr]]
  cases rowsG lv per l (l.length - k) (fr + per) d1 with
  | none => rfl
  | some r => simp
def LevelP (w w' : World) (e : Ending) (ab gb cb : Nat) (d : AD) (v : Value) (lv per : Nat) (l : List (Int × Int)) : Prop :=
 (levelA d lv per l = none /\ e = .returned (.bool false) /\ Keeps (fun i => i = ab ∨ i = gb) w w') ∨
 (∃ d' v',levelA d lv per l = some d' /\ e = .returned (.bool true) /\ ArW w' ab gb cb d' v' /\ LvW w' (fun i => i = ab ∨ i = gb) v' d'.lv /\ (∀ g,v'.ownBlock = some g -> v.ownBlock = some g ∨ w.heap.size <= g) /\ Keeps (fun i => (i = ab ∨ i = gb) ∨ v.ownBlock = some i) w w')
theorem ownG_get (l : List (Int × Int)) (per fr i : Nat) (h : i < (ownG l per fr).length) : eK (ownG l per fr) i = eK l (fr + i) /\ eP (ownG l per fr) i = eP l (fr + i) := by
 have hi : i < per := by unfold ownG at h;rw [List.length_take] at h;omega
 unfold eK eP ownG
 simp only [List.getD_eq_getElem?_getD,List.getElem?_take_of_lt hi,List.getElem?_drop]
 exact ⟨trivial,trivial⟩
theorem ownG_len (l : List (Int × Int)) (per fr : Nat) : (ownG l per fr).length = min per (l.length - fr) := by unfold ownG;rw [List.length_take,List.length_drop]
theorem EntsAt.own {W : World} {g : Nat} {l : List (Int × Int)} (h : EntsAt W g 0 l) (per fr : Nat) : EntsAt W g (fr * 2) (ownG l per fr) := by
 intro i hi
 have h1 := ownG_get l per fr i hi
 have h2 := h (fr + i) (by rw [ownG_len] at hi;omega)
 rw [h1.1,h1.2]
 rw [show fr * 2 + i * 2 = 0 + (fr + i) * 2 by omega]
 exact h2
theorem EntsAt.tl {W : World} {g o : Nat} {l : List (Int × Int)} (h : EntsAt W g o l) : EntsAt W g (o + 2) (l.drop 1) := by
 intro i hi
 rw [List.length_drop] at hi
 have h2 := h (1 + i) (by omega)
 have e1 : eK (l.drop 1) i = eK l (1 + i) := by unfold eK;simp [List.getD_eq_getElem?_getD,Nat.add_comm]
 have e2 : eP (l.drop 1) i = eP l (1 + i) := by unfold eP;simp [List.getD_eq_getElem?_getD,Nat.add_comm]
 rw [e1,e2,show o + 2 + i * 2 = o + (1 + i) * 2 by omega]
 exact h2
theorem EntsAt.kept {w w' : World} {S : Nat -> Prop} {g o : Nat} {l : List (Int × Int)} (h : EntsAt w g o l) (hk : Keeps S w w') (hs : ¬ S g) : EntsAt w' g o l := fun j hj => by
 have h2 := h j hj
 have hg : g < w.heap.size := World.block_lt_of_cell? w ⟨g,o + j * 2,none⟩ h2.1
 exact ⟨(hk.cell (p := ⟨g,o + j * 2,none⟩) hg hs).trans h2.1,(hk.cell (p := ⟨g,o + j * 2 + 1,none⟩) hg hs).trans h2.2⟩
theorem own_ltK {w : World} {base : Nat} {e : TypeId} {size : Nat} {v : Value} {n : Nat} {xs : List Value} (h : w.ownsRow base e size v n xs) : ∀ g,v.ownBlock = some g -> g < w.heap.size := by
 obtain ⟨_,⟨rfl,_⟩ | ⟨g,cap,cur,rfl,hb,hg,_⟩⟩ := h
 ·intro g hg;cases hg
 ·intro g' he;cases he;exact (Array.getElem?_eq_some_iff.1 hg).1
theorem atC_fi (a : Int) (n : Nd) (x : Int) : (atC a n).setIfInBounds 5 (.int .u64 x) = atC a { n with fi := x } := by
 rw [show 5 = 1 + 4 by rfl,atC_set]
 rfl
set_option maxRecDepth 1000000 in
set_option maxHeartbeats 40000000 in
theorem alevel_v (w : World) (ab gb cb : Nat) (d : AD) (v : Value) (g : Nat) (l : List (Int × Int)) (c per lv : Nat) (h : ArW w ab gb cb d v) (ho : ArOk d) (hv : LvW w (fun i => i = ab ∨ i = gb) v d.lv) (hE : EntsAt w g 0 l) (hn : 1 <= l.length) (hll : l.length <= 1000) (h8 : 2 <= per /\ per <= 8) (hlv : lv <= 15)
  (hg : g ≠ ab /\ g ≠ gb) (hc : l.length <= c /\ c <= maxLen) (hu : ∀ i,i < l.length -> (0 <= eK l i /\ eK l i <= 18446744073709551615) /\ (0 <= eP l i /\ eP l i <= 18446744073709551615)) (hdl : d.lv.length <= 1000) :
  Calls Tryz.prog 33 #[.pointer (some ⟨ab,0,none⟩),.int .i64 lv,.slice (some ⟨g,0,none⟩) l.length c,.int .i64 per] w fun e w' => LevelP w w' e ab gb cb d v lv per l := by
 have HAll := Lib.hid (And.intro h (And.intro ho (And.intro hv (And.intro hE (And.intro hu hdl)))))
 have HN := Lib.hid (And.intro hn (And.intro hll (And.intro h8 (And.intro hlv (And.intro hg hc)))))
 have HR0 := Lib.hid (show LvR w w ab gb cb d v lv per l 0 [] d (.slice none 0 0) from ⟨⟨rfl,.inl ⟨rfl,rfl⟩⟩,rfl,by omega,h,ho,Keeps.refl _ _,by
  rw [Nat.zero_mul,Nat.sub_zero]
  cases rowsG lv per l (l.length + 1) 0 d <;> rfl⟩)
 have hlc : (l.length : Int) <= 1000 := by omega
 have hpc : (per : Int) <= 8 := by omega
 have hp0 : (2 : Int) <= per := by omega
 have hcc : (c : Int) <= 9223372036854775807 := by have := hc.2;unfold maxLen at this;omega
 clear h ho hv hE hu hdl hn hll h8 hg hc hlv
 go_enter Tryz.func33,Tryz.ntmps33
 go_upto_region 3 with (fail)
 go_loopw [9,10] (fun rv iv wr => ∃ (k : Nat) (R : List (Nat × Nd)) (dk : AD) (fr : Nat),iv = .int .i64 (fr : Int) /\ Hid (fr = k * per) /\ Hid (LvR w wr ab gb cb d v lv per l k R dk rv)) (fun _ iv _ => 10000 - (intOf iv).toNat)
 case atStart => exact ⟨0,[],d,0,rfl,Lib.hid (by omega),HR0⟩
 case round =>
  obtain ⟨k,R,dk,fr,rfl,HFr,HR⟩ := hrel
  obtain ⟨wo,rfl⟩ : ∃ wo,wo = wr := ⟨_,rfl⟩
  have b1 : (fr : Int) < (l.length : Int) := by have := HFr.out;have := HR.out.lt;omega
  obtain ⟨ow,how⟩ : ∃ ow,ownG l per fr = ow := ⟨_,rfl⟩
  obtain ⟨on,hon⟩ : ∃ on,ow.length = on := ⟨_,rfl⟩
  have hol := ownG_len l per fr
  rw [how,hon] at hol
  have ho1 : 1 <= on := by omega
  have ho8 : (on : Int) <= 8 := by omega
  have hmin : (if (l.length : Int) < (fr : Int) + (per : Int) then (l.length : Int) else (fr : Int) + (per : Int)) = (fr : Int) + (on : Int) := by split <;> omega
  have HOw := Lib.hid (And.intro how (And.intro hon hol))
  obtain ⟨a,ha⟩ : ∃ a,(newNodeA dk).1 = a := ⟨_,rfl⟩
  obtain ⟨d1,hd1⟩ : ∃ d1,(newNodeA dk).2 = d1 := ⟨_,rfl⟩
  have hnn := anewNode_v wo ab gb cb dk v HR.out.ar HR.out.ok
  rw [ha,hd1] at hnn
  have HNn := Lib.hid hnn
  have hok := newNodeA_ok HR.out.ok
  rw [ha,hd1] at hok
  have hai : (a : Int) < 1000000000 := by
   by_cases e : a = 0
   ·omega
   ·have h1 := hok.2.2.2 e
    have h2 := hok.1.len
    have h3 := hok.1.sl
    omega
  have HAd := Lib.hid (And.intro ha (And.intro hd1 hok))
  have hfr1 : (fr : Int) <= 1000 := by omega
  clear how hon hol ha hd1 hnn hok
  go_upto_region 6 with (fail)
  clear hmin
  go_upto_region 7 with (go_at_call 58;refine HNn.out.mono ?_;rintro e w1 ⟨rfl,hA1,hk1⟩)
  have HA1 := Lib.hid hA1
  have HK1 := Lib.hid hk1
  clear hA1 hk1 HNn
  by_cases ha0 : a = 0
  ·subst ha0
   have HNo := Lib.hid (show levelA d lv per l = none from by
    have h1 := HR.out.eq
    have h2 := HR.out.fuel HN.out.2.2.1.1
    rw [h2.1,rowsG_succ lv per l (l.length - k),HAd.out.1,if_pos rfl] at h1
    unfold levelA
    rw [h1];rfl)
   have HKe := Lib.hid (HR.out.kp.trans HK1.out)
   clear HAll HN HR0 HR HA1 HK1 HAd HOw
   go_wp2_with (fail)
   go_ret
   exact .inl ⟨HNo.out,rfl,HKe.out⟩
  have haz : ((a : Int) == 0) = false := by simp;omega
  have haw : IntKind.u64.wrap (a : Int) = (a : Int) := IntWalk.u64_in _ (by omega)
  go_upto_region 9 with (fail)
  obtain ⟨xb,hxb⟩ : ∃ xb,w1.heap.size = xb := ⟨_,rfl⟩
  have HXb := Lib.hid hxb
  have hz := Blk.new w1 (atC 0 nd0) 48
  have hzr := hz.row (atC a (mkNd lv 0 0 a []))
  have hB2 : Below w1.heap.size w1 ((w1.alloc (.cells (atC 0 nd0) 48)).setRow w1.heap.size (atC a (mkNd lv 0 0 a []))) := below_setRow ((Below.refl w1.heap.size w1).alloc (Nat.le_refl _) _) (Nat.le_refl _) _
  rw [hxb] at hz hzr
  have hB3 := hB2
  rw [hxb] at hB2
  have HZ := Lib.hid hz
  obtain ⟨w2,hw2⟩ : ∃ w2,(w1.alloc (.cells (atC 0 nd0) 48)).setRow xb (atC a (mkNd lv 0 0 a [])) = w2 := ⟨_,rfl⟩
  rw [hw2] at hzr hB2
  have HW2 := Lib.hid hw2
  have HX2 := Lib.hid hzr
  have HB2 := Lib.hid hB2
  clear hz hzr hB2 hB3 hw2 hxb
  go_upto_region 10 with (first
   | ((with_reducible refine wpList_bld (o := ⟨some 43,.build 46 _,_,_,_,_⟩) ?hgd 46 _ ?hob0 (ndCells (mkNd lv 0 0 a [])) ?hbb ?_);(case hgd => rfl);(case hob0 => rfl);(case hbb => exact built_lv lv a))
   | ((with_reducible refine wpList_bld (o := ⟨some 44,.build 48 _,_,_,_,_⟩) ?hgd2 48 _ ?hob2 (atC a (mkNd lv 0 0 a [])) ?hbb2 ?_);(case hgd2 => rfl);(case hob2 => rfl);(case hbb2 => exact built_at a lv a))
   | ((with_reducible refine wpList_alloc_at (o := ⟨some 13,_,_,_,_,_⟩) rfl rfl xb ?hz ?_);(case hz => exact HXb.out))
   | ((with_reducible refine wpList_store_at (o := ⟨none,.store 48 (.tmp 13) (.tmp 44),_,_,_,_⟩) ?hgc (.tmp 13) (.tmp 44) ?hoc xb ?cs a (mkNd lv 0 0 a []) 0 nd0 ?hxc ?hyc ?hbc ?hmc ?_);(case hgc => rfl);(case hoc => rfl);(case hxc => rfl);(case hyc => rfl);(case hmc => rfl);(case hbc => exact HZ.out);rw [HW2.out];simp [Act.put]))
  have hE2 := ((HAll.out.2.2.2.1.kept (HR.out.kp.trans HK1.out) (fun e => e.elim HN.out.2.2.2.2.1.1 HN.out.2.2.2.2.1.2)).own per fr).kept ((Keeps.of_below HB2.out).mono (fun i hi (e : xb <= i) => show False from by have := HXb.out;omega)) (fun e => e)
  rw [HOw.out.1] at hE2
  have HE2 := Lib.hid hE2
  have Hgl := Lib.hid (show g < w1.heap.size /\ g ≠ xb from by
   have h1 := HAll.out.2.2.2.1.lt (by have := HN.out.1;omega)
   have h2 := (HR.out.kp.trans HK1.out).size
   have := HXb.out
   omega)
  have hq1 : (fr : Int) + (on : Int) <= (c : Int) := by have := HOw.out.2.2;have := HN.out;omega
  have hq2 : ¬ c = fr := by have := HOw.out.2.2;have := HN.out;omega
  have hq3 : ((fr : Int) + (on : Int)).toNat = fr + on := by omega
  have hq4 : fr + on - fr = on := by omega
  have hq5 : (fr : Int) <= (fr : Int) + (on : Int) := by omega
  clear hE2 HZ HW2
  go_upto_region 11 with (fail)
  obtain ⟨k0,hk0⟩ : ∃ k0,eK ow 0 = k0 := ⟨_,rfl⟩
  obtain ⟨p0,hpp⟩ : ∃ p0,eP ow 0 = p0 := ⟨_,rfl⟩
  have c1 : w2.cell? ⟨g,fr * 2,none⟩ = some (.int .u64 k0) := by rw [<- hk0];exact (HE2.out 0 (by have := HOw.out.2.1;omega)).1
  have n1 : w2.cell? ⟨xb,2,none⟩ = some (.int .u64 0) := (HX2.out.cell 2).trans rfl
  have f1 : w2.frozen? ⟨xb,2,none⟩ = false := HX2.out.frozen 2
  have HKp := Lib.hid (And.intro hk0 hpp)
  obtain ⟨z,hz⟩ : ∃ z : Bool,((fr : Int) == 0) = z := ⟨_,rfl⟩
  have HZ := Lib.hid hz
  clear hk0 hpp
  have b2 : 0 < on := ho1
  go_upto_if 59 with (fail)
  have hX3 := HX2.out.set 2 (.int .u64 k0)
  rw [atC_lo] at hX3
  have HB3 := Lib.hid (HB2.out.setCell (p := ⟨xb,2,none⟩) (Nat.le_refl _) (.int .u64 k0))
  obtain ⟨w3,hw3⟩ : ∃ w3,w2.setCell ⟨xb,2,none⟩ (.int .u64 k0) = w3 := ⟨_,rfl⟩
  rw [hw3] at hX3 HB3 ⊢
  have HX3 := Lib.hid hX3
  clear hX3 n1 f1 c1 hw3 HX2 HB2 hz
  go_cut [] (fun wx => Hid (Blk wx xb (atC a (mkNd lv (if (fr == 0) = true then 0 else k0) 0 a [])) 48) /\ Hid (Below xb w1 wx))
  case first =>
   have n3 : w3.cell? ⟨xb,2,none⟩ = some (.int .u64 k0) := (HX3.out.cell 2).trans rfl
   have f3 : w3.frozen? ⟨xb,2,none⟩ = false := HX3.out.frozen 2
   have HX4 := Lib.hid (HX3.out.set 2 (.int .u64 0))
   have HB4 := Lib.hid (HB3.out.setCell (p := ⟨xb,2,none⟩) (Nat.le_refl _) (.int .u64 0))
   cases z with
   | true =>
    have HFz := Lib.hid (show (fr == 0) = true from by have := HZ.out;simp at this ⊢;omega)
    go_wp2_with (fail)
    go_meet
    exact ⟨Lib.hid (by rw [if_pos HFz.out];have := HX4.out;rw [atC_lo] at this;exact this),HB4⟩
   | false =>
    have HFz := Lib.hid (show ¬ (fr == 0) = true from by have := HZ.out;simp at this ⊢;omega)
    go_wp2_with (fail)
    go_meet
    exact ⟨Lib.hid (by rw [if_neg HFz.out];exact HX3.out),HB3⟩
  case rest =>
   obtain ⟨HX5,HB5⟩ := hcut
   obtain ⟨w5,rfl⟩ : ∃ w5,w5 = wc := ⟨_,rfl⟩
   clear HX3 HB3 HZ HE2
   obtain ⟨lo,hlo⟩ : ∃ lo,(if (fr == 0) = true then 0 else k0) = lo := ⟨_,rfl⟩
   rw [hlo] at HX5
   have HLo := Lib.hid hlo
   obtain ⟨y,hy⟩ : ∃ y : Bool,decide (0 < lv) = y := ⟨_,rfl⟩
   have HY := Lib.hid hy
   clear hlo
   go_upto_if 63 with (fail)
   clear hy
   obtain ⟨fi,hfi⟩ : ∃ fi : Int,(if lv = 0 then (a : Int) else p0) = fi := ⟨_,rfl⟩
   obtain ⟨ow2,how2⟩ : ∃ ow2,(if lv = 0 then ow else ow.drop 1) = ow2 := ⟨_,rfl⟩
   obtain ⟨n2,hn2⟩ : ∃ n2,ow2.length = n2 := ⟨_,rfl⟩
   have HF2 := Lib.hid (And.intro hfi (And.intro how2 hn2))
   have hE5 := ((HAll.out.2.2.2.1.kept (HR.out.kp.trans HK1.out) (fun e => e.elim HN.out.2.2.2.2.1.1 HN.out.2.2.2.2.1.2)).own per fr).kept ((Keeps.of_below HB5.out).mono (fun i hi (e : xb <= i) => show False from by have := HXb.out;omega)) (fun e => e)
   rw [HOw.out.1] at hE5
   have HE5 := Lib.hid hE5
   clear hfi how2 hn2 hE5
   go_cut [14] (fun s14 wx => ∃ o' c' : Nat,s14 = .slice (some ⟨g,o',none⟩) n2 c' /\ Hid (n2 <= c' /\ c' <= maxLen /\ o' <= 100000000 /\ EntsAt w5 g o' ow2) /\ Hid (Blk wx xb (atC a (mkNd lv lo 0 fi [])) 48) /\ Hid (Below xb w5 wx))
   case first =>
    cases y with
    | false =>
     have HL0 := Lib.hid (show lv = 0 from by have := HY.out;simp at this;exact this)
     have HG := Lib.hid (show ow = ow2 /\ on = n2 /\ (a : Int) = fi from by
      have h1 := HF2.out
      rw [if_pos HL0.out,if_pos HL0.out] at h1
      refine ⟨h1.2.1,?_,h1.1⟩
      have := h1.2.1
      have h2 := h1.2.2
      rw [<- this,HOw.out.2.1] at h2
      exact h2)
     go_wp2_with (fail)
     go_meet
     exact ⟨fr * 2,c - fr,by rw [HG.out.2.1],Lib.hid ⟨by have := HG.out.2.1;omega,by unfold maxLen;omega,by omega,by rw [<- HG.out.1];exact HE5.out⟩,by rw [<- HG.out.2.2];exact HX5,Lib.hid (Below.refl _ _)⟩
    | true =>
     have HL0 := Lib.hid (show ¬ lv = 0 from by have := HY.out;simp at this;omega)
     have HG := Lib.hid (show ow.drop 1 = ow2 /\ on - 1 = n2 /\ p0 = fi from by
      have h1 := HF2.out
      rw [if_neg HL0.out,if_neg HL0.out] at h1
      refine ⟨h1.2.1,?_,h1.1⟩
      have h2 := h1.2.2
      rw [<- h1.2.1,List.length_drop,HOw.out.2.1] at h2
      exact h2)
     have c5 : w5.cell? ⟨g,fr * 2 + 1,none⟩ = some (.int .u64 p0) := by rw [<- HKp.out.2];exact (HE5.out 0 (by have := HOw.out.2.1;omega)).2
     have n5 : w5.cell? ⟨xb,5,none⟩ = some (.int .u64 (a : Int)) := (HX5.out.cell 5).trans rfl
     have f5 : w5.frozen? ⟨xb,5,none⟩ = false := HX5.out.frozen 5
     have hX6 := HX5.out.set 5 (.int .u64 p0)
     rw [atC_fi] at hX6
     have HX6 := Lib.hid hX6
     have HB6 := Lib.hid ((Below.refl xb w5).setCell (p := ⟨xb,5,none⟩) (Nat.le_refl _) (.int .u64 p0))
     clear hX6
     by_cases hc1 : c - fr = 1
     ·have hon1 : on = 1 := by omega
      have Hon1 := Lib.hid hon1
      subst hon1
      go_wp2_with (fail)
      go_meet
      exact ⟨fr * 2,0,by rw [<- HG.out.2.1],Lib.hid ⟨by have := HG.out.2.1;omega,by omega,by omega,fun i hi => by have := HG.out.2.1;have := HF2.out.2.2;omega⟩,by rw [<- HG.out.2.2];exact HX6,HB6⟩
     ·have hq6 : (1 : Int) <= (on : Int) := by omega
      have hq7 : (on : Int) <= ((c - fr : Nat) : Int) := by omega
      go_wp2_with (fail)
      go_meet
      exact ⟨fr * 2 + 2,c - fr - 1,by rw [<- HG.out.2.1],Lib.hid ⟨by have := HG.out.2.1;omega,by unfold maxLen;omega,by omega,by rw [<- HG.out.1];exact HE5.out.tl⟩,by rw [<- HG.out.2.2];exact HX6,HB6⟩
   case rest =>
    obtain ⟨o',c',rfl,HE6,HX6,HB6⟩ := hcut
    obtain ⟨w6,rfl⟩ : ∃ w6,w6 = wc := ⟨_,rfl⟩
    clear HE5 HX5 HY
    have HE7 := Lib.hid (HE6.out.2.2.2.kept (S := fun i => xb <= i) (Keeps.of_below HB6.out) (fun e => by have := Hgl.out;have := HXb.out;omega))
    have HC7 := Lib.hid (And.intro HE6.out.1 (And.intro HE6.out.2.1 HE6.out.2.2.1))
    have hn28 : n2 <= 8 := by
     have h1 := HF2.out.2.1
     have h2 := HF2.out.2.2
     have h3 := HOw.out.2.1
     by_cases e : lv = 0
     ·rw [if_pos e] at h1;rw [<- h1] at h2;omega
     ·rw [if_neg e] at h1;rw [<- h1,List.length_drop] at h2;omega
    have Hn8 := Lib.hid hn28
    have Hn2 := Lib.hid HF2.out.2.2
    clear HE6 hn28
    go_upto_region 19 with (fail)
    go_loopw [15] (fun iv wr => ∃ j : Nat,j <= n2 /\ iv = .int .i64 j /\ Hid (Blk wr xb (atC a (mkNd lv lo 0 fi (ow2.take j))) 48) /\ Hid (Keeps (fun i => i = xb) w6 wr)) (fun iv _ => n2 - (intOf iv).toNat)
    case atStart => exact ⟨0,Nat.zero_le _,rfl,HX6,Lib.hid (Keeps.refl _ _)⟩
    case round =>
     obtain ⟨j,hj,rfl,HXr,HKr⟩ := hrel
     by_cases hlt : j < n2
     ·have b3 : (j : Int) < (n2 : Int) := by omega
      have HLt := Lib.hid hlt
      have hj8 : (j : Int) <= 8 := by have := Hn8.out;omega
      obtain ⟨kk,hkk⟩ : ∃ kk,eK ow2 j = kk := ⟨_,rfl⟩
      obtain ⟨pk,hpk⟩ : ∃ pk,eP ow2 j = pk := ⟨_,rfl⟩
      obtain ⟨n1,hn1⟩ : ∃ n1,mkNd lv lo 0 fi (ow2.take j) = n1 := ⟨_,rfl⟩
      have HNx := Lib.hid (show (n1.withK j kk).withP j pk = mkNd lv lo 0 fi (ow2.take (j + 1)) from by rw [<- hn1,<- hkk,<- hpk];exact mkNd_next lv lo 0 fi ow2 j)
      have Hk8 := Lib.hid (show j < 8 by have := Hn8.out;omega)
      have Hgx := Lib.hid (show g < wr.heap.size /\ g ≠ xb /\ wr.cell? ⟨g,o' + j * 2,none⟩ = some (.int .u64 kk) /\ wr.cell? ⟨g,o' + j * 2 + 1,none⟩ = some (.int .u64 pk) from by
       have h1 := HE7.out j (by rw [Hn2.out];exact hlt)
       have h0 : g < w6.heap.size := World.block_lt_of_cell? w6 ⟨g,o' + j * 2,none⟩ h1.1
       rw [<- hkk,<- hpk]
       exact ⟨Nat.lt_of_lt_of_le h0 HKr.out.size,Hgl.out.2,(HKr.out.cell (p := ⟨g,o' + j * 2,none⟩) h0 Hgl.out.2).trans h1.1,(HKr.out.cell (p := ⟨g,o' + j * 2 + 1,none⟩) h0 Hgl.out.2).trans h1.2⟩)
      rw [hn1] at HXr
      clear hkk hpk hn1
      go_upto_region 21 with (fail)
      refine wp_region_vals [Is (.int .i64 (j : Nat)),Is (.int .i64 (j : Nat)),Is (.slice (some ⟨g,o',none⟩) n2 c'),Is (.int .i64 (j : Nat)),Is (.pointer (some ⟨g,o' + j * 2,none⟩)),Is (.pointer (some ⟨g,o' + j * 2,none⟩)),Is (.int .u64 kk),Is (.slice (some ⟨g,o',none⟩) n2 c'),Is (.int .i64 (j : Nat)),Is (.pointer (some ⟨g,o' + j * 2,none⟩)),Is (.pointer (some ⟨g,o' + j * 2 + 1,none⟩)),Is (.int .u64 pk),Is (.pointer (some ⟨xb,1,none⟩)),Is (.pointer (some ⟨xb,6,none⟩)),Is (.pointer (some ⟨xb,6 + j,none⟩)),Is (undef),Is (.pointer (some ⟨xb,1,none⟩)),Is (.pointer (some ⟨xb,14,none⟩)),Is (.pointer (some ⟨xb,14 + j,none⟩)),Is (undef)]
       (fun _ _ _ => True) (fun L W => KvG wr xb a n1 j kk pk L W) (by kernel_rfl) (by kernel_rfl) (by kernel_rfl) ?hst ?h0 ⟨?o0,?o1,?o2,?o3,?o4,?o5,?o6,?o7,?o8,?o9,?o10,?o11,?o12,?o13,?o14,?o15,?o16,?o17,?o18,?o19,trivial⟩ ?he
      any_goals (intro L vs A W H hf hd K hK)
      case hst => repeat' (first | exact trivial | refine ⟨fun _ _ _ _ _ _ h _ => h,?_⟩)
      case h0 =>
       exact KvG.start HXr.out
      case o0 => have e15 : A.tmps[15]?.getD undef = .int .i64 (j : Nat) := H.old 15 (by kernel_rfl);go_simp;exact hK _ _ (trivial) rfl (H.glob.keep rfl rfl)
      case o1 => have e15 : A.tmps[15]?.getD undef = .int .i64 (j : Nat) := H.old 15 (by kernel_rfl);go_simp;exact hK _ _ (trivial) rfl (H.glob.keep rfl rfl)
      case o2 => have e14 : A.tmps[14]?.getD undef = .slice (some ⟨g,o',none⟩) n2 c' := H.old 14 (by kernel_rfl);go_simp;exact hK _ _ (trivial) rfl (H.glob.keep rfl rfl)
      case o3 => have e15 : A.tmps[15]?.getD undef = .int .i64 (j : Nat) := H.old 15 (by kernel_rfl);go_simp;exact hK _ _ (trivial) rfl (H.glob.keep rfl rfl)
      case o4 => have e80 := H.iz hd 2 80 rfl rfl rfl (by kernel_rfl);have e81 := H.iz hd 3 81 rfl rfl rfl (by kernel_rfl);go_simp;exact hK _ _ (trivial) rfl (H.glob.keep rfl rfl)
      case o5 => have e82 := H.iz hd 4 82 rfl rfl rfl (by kernel_rfl);go_simp;exact hK _ _ (trivial) rfl (H.glob.keep rfl rfl)
      case o6 => have e83 := H.iz hd 5 83 rfl rfl rfl (by kernel_rfl);have d0 : W.cell? ⟨g,o' + j * 2,none⟩ = some (.int .u64 kk) := (H.glob.kp.cell (p := ⟨g,o' + j * 2,none⟩) Hgx.out.1 Hgx.out.2.1).trans Hgx.out.2.2.1;go_simp;exact hK _ _ (trivial) rfl (H.glob.keep rfl rfl)
      case o7 => have e14 : A.tmps[14]?.getD undef = .slice (some ⟨g,o',none⟩) n2 c' := H.old 14 (by kernel_rfl);go_simp;exact hK _ _ (trivial) rfl (H.glob.keep rfl rfl)
      case o8 => have e15 : A.tmps[15]?.getD undef = .int .i64 (j : Nat) := H.old 15 (by kernel_rfl);go_simp;exact hK _ _ (trivial) rfl (H.glob.keep rfl rfl)
      case o9 => have e85 := H.iz hd 7 85 rfl rfl rfl (by kernel_rfl);have e86 := H.iz hd 8 86 rfl rfl rfl (by kernel_rfl);go_simp;exact hK _ _ (trivial) rfl (H.glob.keep rfl rfl)
      case o10 => have e87 := H.iz hd 9 87 rfl rfl rfl (by kernel_rfl);go_simp;exact hK _ _ (trivial) rfl (H.glob.keep rfl rfl)
      case o11 => have e88 := H.iz hd 10 88 rfl rfl rfl (by kernel_rfl);have d0 : W.cell? ⟨g,o' + j * 2 + 1,none⟩ = some (.int .u64 pk) := (H.glob.kp.cell (p := ⟨g,o' + j * 2 + 1,none⟩) Hgx.out.1 Hgx.out.2.1).trans Hgx.out.2.2.2;go_simp;exact hK _ _ (trivial) rfl (H.glob.keep rfl rfl)
      case o12 => have e13 : A.tmps[13]?.getD undef = .pointer (some ⟨xb,0,none⟩) := H.old 13 (by kernel_rfl);go_simp;exact hK _ _ (trivial) rfl (H.glob.keep rfl rfl)
      case o13 => have e90 := H.iz hd 12 90 rfl rfl rfl (by kernel_rfl);go_simp;exact hK _ _ (trivial) rfl (H.glob.keep rfl rfl)
      case o14 =>
       have e91 := H.iz hd 13 91 rfl rfl rfl (by kernel_rfl)
       have e78 := H.iz hd 0 78 rfl rfl rfl (by kernel_rfl)
       have hk8i : (j : Int) < 8 := by (have := Hk8.out;omega)
       go_simp
       exact hK _ _ (trivial) rfl (H.glob.keep rfl rfl)
      case o15 => have e92 := H.iz hd 14 92 rfl rfl rfl (by kernel_rfl);have e84 := H.iz hd 6 84 rfl rfl rfl (by kernel_rfl);have f0 := H.glob.b.frozen (6 + j);have n0 := H.glob.ck Hk8.out;go_simp;exact hK _ _ (trivial) rfl (H.glob.sk hf Hk8.out)
      case o16 => have e13 : A.tmps[13]?.getD undef = .pointer (some ⟨xb,0,none⟩) := H.old 13 (by kernel_rfl);go_simp;exact hK _ _ (trivial) rfl (H.glob.keep rfl rfl)
      case o17 => have e93 := H.iz hd 16 93 rfl rfl rfl (by kernel_rfl);go_simp;exact hK _ _ (trivial) rfl (H.glob.keep rfl rfl)
      case o18 =>
       have e94 := H.iz hd 17 94 rfl rfl rfl (by kernel_rfl)
       have e79 := H.iz hd 1 79 rfl rfl rfl (by kernel_rfl)
       have hk8i : (j : Int) < 8 := by (have := Hk8.out;omega)
       go_simp
       exact hK _ _ (trivial) rfl (H.glob.keep rfl rfl)
      case o19 => have e95 := H.iz hd 18 95 rfl rfl rfl (by kernel_rfl);have e89 := H.iz hd 11 89 rfl rfl rfl (by kernel_rfl);have f0 := H.glob.b.frozen (14 + j);have n0 := H.glob.cp Hk8.out;go_simp;exact hK _ _ (trivial) rfl (H.glob.sp hf Hk8.out)
      case he =>
       intro vs W hlen hv
       match vs,hlen,hv with
       | [x0_,x1_,x2_,x3_,x4_,x5_,x6_,x7_,x8_,x9_,x10_,x11_,x12_,x13_,x14_,x15_,x16_,x17_,x18_,x19_],_,hv =>
       obtain rfl := isv hv 0 rfl rfl;obtain rfl := isv hv 1 rfl rfl;obtain rfl := isv hv 2 rfl rfl;obtain rfl := isv hv 3 rfl rfl;obtain rfl := isv hv 4 rfl rfl;obtain rfl := isv hv 5 rfl rfl;obtain rfl := isv hv 6 rfl rfl;obtain rfl := isv hv 7 rfl rfl;obtain rfl := isv hv 8 rfl rfl;obtain rfl := isv hv 9 rfl rfl;obtain rfl := isv hv 10 rfl rfl;obtain rfl := isv hv 11 rfl rfl;obtain rfl := isv hv 12 rfl rfl;obtain rfl := isv hv 13 rfl rfl;obtain rfl := isv hv 14 rfl rfl;obtain rfl := isv hv 15 rfl rfl;obtain rfl := isv hv 16 rfl rfl;obtain rfl := isv hv 17 rfl rfl;obtain rfl := isv hv 18 rfl rfl;obtain rfl := isv hv 19 rfl rfl
       intro L hall hG
       clear hv hlen
       have HG := Lib.hid (hG.fin (hall 15 (by decide)) (hall 19 (by decide)))
       clear hG hall
       simp only [fill,if_true]
       simp [Act.put]
       go_wp2_with (fail)
       go_roundw
       case rel => exact ⟨j + 1,HLt.out,by go_num,Lib.hid (by rw [<- HNx.out];exact HG.out.2),Lib.hid (HKr.out.trans HG.out.1)⟩
       case measure => have := HLt.out;simp [intOf];omega
     ·have hjn : j = n2 := by omega
      have b3 : ¬ (j : Int) < (n2 : Int) := by omega
      have hXe := HXr.out
      rw [hjn,<- Hn2.out,List.take_length] at hXe
      have HXe := Lib.hid hXe
      have hkx : Keeps (fun i => xb <= i) w1 wr := (Keeps.of_below HB5.out).trans ((Keeps.of_below HB6.out).trans (HKr.out.mono (fun i hi (e : i = xb) => show xb <= i from by omega)))
      have HKr2 := Lib.hid ((HR.out.kp.trans HK1.out).trans' hkx (fun i hi (e : xb <= i) => show i = ab ∨ i = gb from by have := HXb.out;have := (HR.out.kp.trans HK1.out).size;omega))
      have HAr := Lib.hid (show ArW wr ab gb cb d1 v from HA1.out.kept hkx (fun e => by have := HXb.out;have := HA1.out.a.lt;omega) (fun e => by have := HXb.out;have := HA1.out.b.lt;omega))
      have HRw := Lib.hid (show wr.ownsRow w.heap.size 48 22 u9 R.length (atcs R) from own_keptK (own_keptK HR.out.own HK1.out (fun i hi e => by have := own_base HR.out.own i hi;rcases e with e | e;have := HAll.out.1.a.lt;omega;have := HAll.out.1.b.lt;omega)) hkx (fun i hi e => by have := own_ltK HR.out.own i hi;have := HK1.out.size;have := HXb.out;omega))
      obtain ⟨nd,hnd⟩ : ∃ nd,mkNd lv lo 0 fi ow2 = nd := ⟨_,rfl⟩
      have HNd := Lib.hid (show nd = ndG lv (fr == 0) a (ownG l per fr) from by
       rw [<- hnd,<- HLo.out,<- HF2.out.1,<- HF2.out.2.1,<- HKp.out.1,<- HKp.out.2,HOw.out.1];rfl)
      rw [hnd] at HXe
      have HLd := Lib.hid (show ∀ i u,(atC a nd)[i]? = some u -> wr.cell? ⟨xb,0 + i,none⟩ = some u from fun i u hi => by rw [Nat.zero_add];exact (HXe.out.cell i).trans hi)
      clear hXe HXr hkx b3 hnd
      go_upto_region 23 with ((with_reducible refine wpList_load_part (o := ⟨some 97,.load 48 (.tmp 13),_,_,_,_⟩) ?hg 48 (.tmp 13) ?ho xb 0 ?hx (atC a nd) ?dd ?hc ?hu ?hd ?hi ?_);(case hg => rfl);(case ho => rfl);(case hx => rfl);(case hc => exact HLd.out);(case hu => exact Tryz.underlying48);(case hd => rfl);(case hi => exact infoAt a nd);(with_reducible refine wpList_bs_at (o := ⟨some 98,_,_,_,_,_⟩) ?hgb (.tmp 97) ?hob a nd ?hxb ?_);(case hgb => rfl);(case hob => rfl);(case hxb => exact ev_tmp (by simp [Act.put]));(with_reducible refine wpList_append_atl (o := ⟨some 99,_,_,_,_,_⟩) ?hga (.tmp 96) (.tmp 98) ?hoa w.heap.size u9 R (a,nd) ?hsa ?hna wr.heap.size ?hxa ?hba ?hta ?hBa ?_);(case hga => rfl);(case hoa => rfl);(case hsa => exact ev_tmp (by simp [Act.put]));(case hxa => exact ev_tmp (by simp [Act.put]));(case hna => exact own_keptK HRw.out ((Keeps.refl NoB wr).alloc _) (fun _ _ e => e));(case hba => exact Blk.new wr _ _);(case hta => have h1 := HR.out.len;have h2 := HR.out.fuel HN.out.2.2.1.1;have h3 := HN.out.2.1;omega);(case hBa => exact ((HKr2.out.alloc _).size));intro rv' w8 hown8 hgr8;simp [Act.put])
      have hk8 : Keeps (fun i => w.heap.size <= i) wr w8 := ((Keeps.refl _ wr).alloc _).grown hgr8 (fun i hi => .inl (own_base HRw.out i hi))
      have HAr8 := Lib.hid (show ArW w8 ab gb cb d1 v from HAr.out.kept hk8 (fun e => by have := HAll.out.1.a.lt;omega) (fun e => by have := HAll.out.1.b.lt;omega))
      have HM := Lib.hid (HR.out.more HN.out.2.2.1.1 HFr.out HAd.out.1 HAd.out.2.1 ha0 nd HNd.out hown8 HAr8.out (HKr2.out.trans' hk8 (fun i hi e => by omega)))
      have HKl := Lib.hid (show (R ++ [(a,nd)]).length <= 1001 from by have h1 := HR.out.len;have h2 := HR.out.fuel HN.out.2.2.1.1;have h3 := HN.out.2.1;rw [List.length_append,h1];simp;omega)
      clear hown8 hgr8 hk8 HAr HRw HKr2 HLd HR HR0 HAr8
      by_cases hle : l.length <= fr + per
      ·have hb4 : ((fr : Int) + (on : Int) == (l.length : Int)) = true := by have := HOw.out.2.2;simp;omega
       have HD := Lib.hid (HM.out.1 hle)
       clear HM
       have HT := Lib.hid (And.intro HAll.out.1 (And.intro HAll.out.2.1 (And.intro HAll.out.2.2.1 (And.intro HN.out.2.2.2.1 (And.intro (U64E.of HAll.out.2.2.2.2.1) HAll.out.2.2.2.2.2)))))
       have HOk1 := Lib.hid HAd.out.2.2.1
       clear HNd
       obtain ⟨RR,hRR⟩ : ∃ RR,R ++ [(a,nd)] = RR := ⟨_,rfl⟩
       rw [hRR] at HD
       have hpos : 0 < RR.length := by rw [<- hRR,List.length_append];exact Nat.succ_pos _
       obtain ⟨rb,cr,rfl,hrb,hrc,hrm,hrow⟩ := own_rowB HD.out.own hpos
       obtain ⟨n,hnn⟩ : ∃ n,RR.length = n := ⟨_,rfl⟩
       have HRi := Lib.hid (And.intro hrow (And.intro hrb (And.intro hrc (And.intro hrm hnn))))
       have hok1 := HOk1.out
       have HOk := Lib.hid hok1
       have HAx := Lib.hid HD.out.ar
       have hn100 : (n : Int) <= 1001 := by have := HKl.out;rw [hRR,hnn] at this;omega
       rw [hnn] at hrc ⊢
       clear hRR hpos hrow hrb hrm hok1 hnn
       go_upto_region 25 with (fail)
       go_loopw [16] (fun iv wr => ∃ i : Nat,i <= n /\ iv = .int .i64 i /\ Hid (RowAtB wr rb ((linkR RR).take i ++ RR.drop i)) /\ Hid (ArW wr ab gb cb (layR d1 ((linkR RR).take i)) v) /\ Hid (Keeps (fun x => x = rb ∨ x = gb) w8 wr)) (fun iv _ => n - (intOf iv).toNat)
       case atStart => exact ⟨0,Nat.zero_le _,rfl,HRi.out.1,HAx,Lib.hid (Keeps.refl _ _)⟩
       case round =>
        obtain ⟨i,hi,rfl,HRr,HAr,HKr⟩ := hrel
        by_cases hlt : i < n
        ·have hi3 : (i : Int) < (n : Int) := by omega
         obtain ⟨⟨xa,xn⟩,hx⟩ : ∃ x,RR[i]? = some x := ⟨_,List.getElem?_eq_getElem (by have := HRi.out.2.2.2.2;omega)⟩
         obtain ⟨y2,hy2⟩ : ∃ y2,lnk1 RR i (xa,xn) = (xa,y2) := ⟨_,rfl⟩
         have HX := Lib.hid (And.intro hx hy2)
         have HLt := Lib.hid hlt
         have hi10 : (i : Int) <= 1001 := by omega
         have hiR : i < RR.length := by have := HRi.out.2.2.2.2;omega
         have HiR := Lib.hid hiR
         obtain ⟨q,hq⟩ : ∃ q : Bool,decide ((i : Int) + 1 < (n : Int)) = q := ⟨_,rfl⟩
         have HQ := Lib.hid hq
         clear hx hy2 hiR
         go_upto_if 114 with (fail)
         clear hq
         go_cut [] (fun wx => Hid (RowAtB wx rb ((linkR RR).take (i + 1) ++ RR.drop (i + 1))) /\ Hid (Keeps (fun x => x = rb) wr wx))
         case first =>
          cases q with
          | true =>
           have hi1 : i + 1 < n := by have := HQ.out;simp at this;omega
           obtain ⟨⟨ya,yn⟩,hy⟩ : ∃ y,RR[i + 1]? = some y := ⟨_,List.getElem?_eq_getElem (by have := HRi.out.2.2.2.2;omega)⟩
           have hq9 : ((i : Int) + 1).toNat = i + 1 := by omega
           have c0 : wr.cell? ⟨rb,(i + 1) * 22,none⟩ = some (.int .u64 (ya : Int)) := (HRr.out.cell (j := i + 1) (k := 0) ((link_at HiR.out (by omega)).trans hy) (by decide)).trans rfl
           have n0 : wr.cell? ⟨rb,i * 22 + 3,none⟩ = some (.int .u64 xn.nx) := (HRr.out.cell (j := i) (k := 3) ((link_at HiR.out (Nat.le_refl _)).trans HX.out.1) (by decide)).trans rfl
           have f0 := HRr.out.frozen (i * 22 + 3)
           have hr2 := HRr.out.set (j := i) (k := 3) (u := .int .u64 (ya : Int)) (y := (xa,y2)) ((link_at HiR.out (Nat.le_refl _)).trans HX.out.1) (by
            rw [atC_nx]
            have := HX.out.2
            unfold lnk1 at this
            rw [hy] at this
            rw [<- (Prod.mk.inj this).2]) (by decide)
           rw [link_set HX.out.1 HX.out.2] at hr2
           have HR2 := Lib.hid hr2
           have HK2 := Lib.hid ((Keeps.refl (fun x => x = rb) wr).setCell (p := ⟨rb,i * 22 + 3,none⟩) (.inl rfl) (.int .u64 (ya : Int)))
           clear hr2 hy
           go_wp2_with (fail)
           go_meet
           exact ⟨HR2,HK2⟩
          | false =>
           have hi1 : ¬ i + 1 < n := by have := HQ.out;simp at this;omega
           have HR2 := Lib.hid (show RowAtB wr rb ((linkR RR).take (i + 1) ++ RR.drop (i + 1)) from by
            have h1 := HX.out.2
            unfold lnk1 at h1
            rw [show RR[i + 1]? = none from List.getElem?_eq_none (by have := HRi.out.2.2.2.2;omega)] at h1
            rw [<- link_same HX.out.1 (by rw [HX.out.2,<- (Prod.mk.inj h1).2])]
            exact HRr.out)
           go_wp2_with (fail)
           go_meet
           exact ⟨HR2,Lib.hid (Keeps.refl _ _)⟩
         case rest =>
          obtain ⟨HR2,HK2⟩ := hcut
          obtain ⟨wq,rfl⟩ : ∃ wq,wq = wc := ⟨_,rfl⟩
          have hab : ab < w.heap.size /\ gb < w.heap.size := ⟨HT.out.1.a.lt,HT.out.1.b.lt⟩
          have hrb0 := HRi.out.2.1
          have hxi : ((linkR RR).take (i + 1) ++ RR.drop (i + 1))[i]? = some (xa,y2) := by rw [<- link_set HX.out.1 HX.out.2,List.getElem?_set_self (by rw [List.length_append,List.length_take,linkR_len,List.length_drop];have := HiR.out;omega)]
          have HRx := Lib.hid (show RowAtB wq rb ((linkR RR).take (i + 1) ++ RR.drop (i + 1)) /\ rb ≠ gb /\ (∀ j u,(ndCells y2)[j]? = some u -> wq.cell? ⟨rb,i * 22 + 1 + j,none⟩ = some u) /\ wq.cell? ⟨rb,i * 22,none⟩ = some (.int .u64 (xa : Int)) from
           ⟨HR2.out,by omega,fun j u hj => by
            have hj21 : j < 21 := by
             have := (Array.getElem?_eq_some_iff.1 hj).1
             rwa [ndCells_size] at this
            have h1 := HR2.out.cell (j := i) (k := 1 + j) hxi (by omega)
            rw [atC_succ,hj,show i * 22 + (1 + j) = i * 22 + 1 + j by omega] at h1
            exact h1,(HR2.out.cell (j := i) (k := 0) hxi (by decide)).trans rfl⟩)
          obtain ⟨d2,hd2⟩ : ∃ d2,layR d1 ((linkR RR).take i) = d2 := ⟨_,rfl⟩
          have HArx := Lib.hid (show ArW wq ab gb cb d2 v from by rw [<- hd2];exact HAr.out.kept HK2.out (fun e => by omega) (fun e => by omega))
          have HLy := Lib.hid (show ∀ W,ArW W ab gb cb d2 v -> Calls Tryz.prog 59 #[.pointer (some ⟨ab,0,none⟩),.int .u64 (xa : Int),.agg (ndCells y2)] W fun e w' => e = .returned (.tuple #[]) /\ ArW w' ab gb cb (layA d2 xa y2) v /\ Keeps (fun i => i = gb) W w' from fun W hW => by
           have h1 := rowsG_ok _ _ HT.out.2.1 HD.out.eq
           have h2 := rowsG_wf HT.out.2.2.2.1 HT.out.2.2.2.2.1 _ _ HT.out.2.1 HD.out.eq
           have hL : d.L.length <= 1000000 := by have := HT.out.2.1.len;have := HT.out.2.1.sl;omega
           have hL1 : d1.L.length = d.L.length := by rw [h1.1.len,h1.2.1,HT.out.2.1.len]
           have hm : ∀ x ∈ (linkR RR).take i,x.1 + 192 <= d1.L.length := by
            intro x hx
            obtain ⟨j,hj⟩ := List.mem_iff_getElem?.1 (List.mem_of_mem_take hx)
            rw [linkR_get] at hj
            obtain ⟨y,hy,rfl⟩ := Option.map_eq_some_iff.1 hj
            rw [hL1]
            exact (h1.2.2.2.1 y (List.mem_of_getElem? hy)).2
           have h3 := layR_ok _ h1.1 hm
           rw [hd2] at h3
           refine alay_v W ab gb cb d2 v xa y2 hW ?_ ?_ ?_
           ·have := lnk1_wf hL (fun x hx => (h2 x hx).1) (fun x hx => (h1.2.2.2.1 x hx).2) HX.out.1
            rw [HX.out.2] at this
            exact this
           ·rw [h3.2,hL1];exact (h1.2.2.2.1 _ (List.mem_of_getElem? HX.out.1)).2
           ·rw [h3.2,hL1];exact hL)
          have HD2 := Lib.hid hd2
          have HKq := Lib.hid (HKr.out.trans (HK2.out.mono (fun i hi e => .inl e)))
          clear hab hrb0 hxi hd2 HAr HR2 HK2 HRr
          go_upto_region 29 with (fail)
          refine wp_region_vals [Is (.pointer (some ⟨ab,0,none⟩)),Is (.slice (some ⟨rb,0,none⟩) n cr),Is (.int .i64 (i : Nat)),Is (.pointer (some ⟨rb,i * 22,none⟩)),Is (.pointer (some ⟨rb,i * 22,none⟩)),Is (.int .u64 (xa : Int)),Is (.slice (some ⟨rb,0,none⟩) n cr),Is (.int .i64 (i : Nat)),Is (.pointer (some ⟨rb,i * 22,none⟩)),Is (.pointer (some ⟨rb,i * 22 + 1,none⟩)),Is (.agg (ndCells y2)),Is (.tuple #[])]
           (fun _ _ _ => True) (fun L W => CallG 11 wq gb (fun W' => ArW W' ab gb cb (layA d2 xa y2) v) L W) (by kernel_rfl) (by kernel_rfl) (by kernel_rfl) ?hst ?h0 ⟨?o0,?o1,?o2,?o3,?o4,?o5,?o6,?o7,?o8,?o9,?o10,?o11,trivial⟩ ?he
          any_goals (intro L vs A W H hf hd K hK)
          case hst => repeat' (first | exact trivial | refine ⟨fun _ _ _ _ _ _ h _ => h,?_⟩)
          case h0 =>
           exact CallG.start 11 wq gb _
          case o0 => have e0 : A.tmps[0]?.getD undef = .pointer (some ⟨ab,0,none⟩) := H.old 0 (by kernel_rfl);go_simp;exact hK _ _ (trivial) rfl (H.glob.keep rfl)
          case o1 => have e9 : A.tmps[9]?.getD undef = .slice (some ⟨rb,0,none⟩) n cr := H.old 9 (by kernel_rfl);go_simp;exact hK _ _ (trivial) rfl (H.glob.keep rfl)
          case o2 => have e16 : A.tmps[16]?.getD undef = .int .i64 (i : Nat) := H.old 16 (by kernel_rfl);go_simp;exact hK _ _ (trivial) rfl (H.glob.keep rfl)
          case o3 => have e127 := H.iz hd 1 127 rfl rfl rfl (by kernel_rfl);have e128 := H.iz hd 2 128 rfl rfl rfl (by kernel_rfl);go_simp;exact hK _ _ (trivial) rfl (H.glob.keep rfl)
          case o4 => have e129 := H.iz hd 3 129 rfl rfl rfl (by kernel_rfl);go_simp;exact hK _ _ (trivial) rfl (H.glob.keep rfl)
          case o5 => have e130 := H.iz hd 4 130 rfl rfl rfl (by kernel_rfl);have d0 : W.cell? ⟨rb,i * 22,none⟩ = some (.int .u64 (xa : Int)) := (H.glob.kp.cell (p := ⟨rb,i * 22,none⟩) HRx.out.1.lt HRx.out.2.1).trans HRx.out.2.2.2;go_simp;exact hK _ _ (trivial) rfl (H.glob.keep rfl)
          case o6 => have e9 : A.tmps[9]?.getD undef = .slice (some ⟨rb,0,none⟩) n cr := H.old 9 (by kernel_rfl);go_simp;exact hK _ _ (trivial) rfl (H.glob.keep rfl)
          case o7 => have e16 : A.tmps[16]?.getD undef = .int .i64 (i : Nat) := H.old 16 (by kernel_rfl);go_simp;exact hK _ _ (trivial) rfl (H.glob.keep rfl)
          case o8 => have e132 := H.iz hd 6 132 rfl rfl rfl (by kernel_rfl);have e133 := H.iz hd 7 133 rfl rfl rfl (by kernel_rfl);go_simp;exact hK _ _ (trivial) rfl (H.glob.keep rfl)
          case o9 => have e134 := H.iz hd 8 134 rfl rfl rfl (by kernel_rfl);go_simp;exact hK _ _ (trivial) rfl (H.glob.keep rfl)
          case o10 => have e135 := H.iz hd 9 135 rfl rfl rfl (by kernel_rfl);have HL := Lib.hid (show ∀ j u,(ndCells y2)[j]? = some u -> W.cell? ⟨rb,i * 22 + 1 + j,none⟩ = some u from fun j u hu => (H.glob.kp.cell (p := ⟨rb,i * 22 + 1 + j,none⟩) HRx.out.1.lt HRx.out.2.1).trans (HRx.out.2.2.1 j u hu));exact wp_ld_part 46 _ rfl rb (i * 22 + 1) (ev_tmp e135) (ndCells y2) _ HL.out Tryz.underlying46 rfl (info27 y2) (hK _ _ trivial rfl (H.glob.keep rfl))
          case o11 => have e126 := H.iz hd 0 126 rfl rfl rfl (by kernel_rfl);have e131 := H.iz hd 5 131 rfl rfl rfl (by kernel_rfl);have e136 := H.iz hd 10 136 rfl rfl rfl (by kernel_rfl);have HB := Lib.hid (H.glob.n hf);have HL := Lib.hid (HLy.out W (HArx.out.below HB.out));go_simp;refine HL.out.mono ?_;rintro e w' ⟨rfl,hA,hk⟩;go_simp;exact hK _ _ trivial rfl (CallG.call hA (((Keeps.of_below' HB.out).mono (fun _ _ h => h.elim)).trans hk))
          case he =>
           intro vs W hlen hv
           match vs,hlen,hv with
           | [x0_,x1_,x2_,x3_,x4_,x5_,x6_,x7_,x8_,x9_,x10_,x11_],_,hv =>
           obtain rfl := isv hv 0 rfl rfl;obtain rfl := isv hv 1 rfl rfl;obtain rfl := isv hv 2 rfl rfl;obtain rfl := isv hv 3 rfl rfl;obtain rfl := isv hv 4 rfl rfl;obtain rfl := isv hv 5 rfl rfl;obtain rfl := isv hv 6 rfl rfl;obtain rfl := isv hv 7 rfl rfl;obtain rfl := isv hv 8 rfl rfl;obtain rfl := isv hv 9 rfl rfl;obtain rfl := isv hv 10 rfl rfl;obtain rfl := isv hv 11 rfl rfl
           intro L hall hG
           clear hv hlen
           have HG1 := Lib.hid (hG.y (hall 11 (by decide)))
           have HKt := Lib.hid hG.kp
           clear hG hall
           simp only [fill,if_true]
           simp [Act.put]
           have HE1 := Lib.hid (show ArW W ab gb cb (layR d1 ((linkR RR).take (i + 1))) v from by
            have e : (linkR RR).take (i + 1) = (linkR RR).take i ++ [(xa,y2)] := by
             rw [List.take_add_one,linkR_get,HX.out.1,Option.map_some,HX.out.2];rfl
            rw [e,layR_snoc,HD2.out]
            exact HG1.out)
           have HE2 := Lib.hid (HRx.out.1.kept HKt.out HRx.out.2.1)
           have HE3 := Lib.hid (HKq.out.trans (HKt.out.mono (fun i hi e => .inr e)))
           clear HG1 HKt HRx HKq HLy HArx
           go_wp2_with (fail)
           go_roundw
           case rel => exact ⟨i + 1,HLt.out,by go_num,HE2,HE1,HE3⟩
           case measure => have := HLt.out;simp [intOf];omega
        ·have hin : i = n := by omega
         have hi3 : ¬ (i : Int) < (n : Int) := by omega
         have hl1 : (linkR RR).take i ++ RR.drop i = linkR RR := by
          rw [hin,<- HRi.out.2.2.2.2,List.drop_length,List.append_nil,List.take_of_length_le (by rw [linkR_len];exact Nat.le_refl _)]
         have hl2 : (linkR RR).take i = linkR RR := by
          rw [hin,<- HRi.out.2.2.2.2,List.take_of_length_le (by rw [linkR_len];exact Nat.le_refl _)]
         rw [hl1] at HRr
         rw [hl2] at HAr
         clear hl1 hl2
         have hkW := HD.out.kp.trans' HKr.out (fun x hx (e : x = rb ∨ x = gb) => show x = ab ∨ x = gb from by have := HRi.out.2.1;rcases e with e | e;omega;exact .inr e)
         have hlvW := HT.out.2.2.1.kept hkW (fun x e => e)
         obtain ⟨⟨vs,hvo,hvr⟩,hvn⟩ := hlvW
         have hvb : v.ownBlock ≠ some rb := fun e => by have := own_ltK (HT.out.2.2.1.ex.choose_spec.1) rb e;have := HRi.out.2.1;omega
         have hab : ab < w.heap.size /\ gb < w.heap.size := ⟨HT.out.1.a.lt,HT.out.1.b.lt⟩
         have hvl : vs.length = d.lv.length := by have := hvo.1;omega
         have HV := Lib.hid (And.intro hvo (And.intro hvr (And.intro hvn (And.intro hvb (And.intro hab (And.intro hkW hvl))))))
         obtain ⟨va,vl,vc,hv⟩ := own_slice hvo
         have c7 : wr.cell? ⟨ab,7,none⟩ = some (.slice va vl vc) := by rw [<- hv];exact (HAr.out.a.cell 7).trans rfl
         have HVv := Lib.hid hv
         obtain ⟨i0,hi0,hz0,hz1,hz2⟩ := infoRowK
         have HI0 := Lib.hid (And.intro hi0 (And.intro hz0 (And.intro hz1 hz2)))
         clear hvo hvr hvn hvb hab hkW hv hi0 hz0 hz1 hz2 hvl
         go_upto_region 31 with (at_builtin;(with_reducible refine wpList_append_own_at _ ?g1 (.tmp 142) (.tmp 144) 29 ?g2 0 49 i0 (.slice none 0 0) 1 24 ?g3 ?g4 ?g5 ?g6 ?g7 ?g8 ?g9 v d.lv.length vs ?g10 ?g11 ⟨wr.heap.size,0,none⟩ 1 1 [.slice (some ⟨rb,0,none⟩) n cr] ?g12 ?g13 ?g14 ?g15 ?g16 ?g17 ?g18 ?g19);(case g1 => rfl);(case g2 => rfl);(case g3 => exact Tryz.underlying29);(case g4 => exact HI0.out.1);(case g5 => exact HI0.out.2.1);(case g6 => exact HI0.out.2.2.1);(case g7 => exact HI0.out.2.2.2);(case g8 => rfl);(case g9 => decide);(case g10 => rw [HVv.out];exact ev_tmp (by simp));(case g11 => exact own_keptK HV.out.1 ((Keeps.refl NoB wr).alloc _) (fun _ _ e => e));(case g12 => exact ev_tmp (by simp));(case g13 => rfl);(case g14 => exact cell_one_new _ _ _);(case g15 => simp [Value.oneCell']);(case g16 => have := HT.out;unfold maxLen;omega);(case g17 => have := HT.out;omega);(case g18 => exact Nat.zero_le _);intro v9 w9 hown9 hg9 _ hat9;obtain ⟨a9,l9,c9,hv9⟩ := own_slice hown9;have HO9 := Lib.hid (And.intro hown9 (And.intro hg9 (And.intro hat9 hv9)));have hA9 := HAr.out.kept (((Keeps.refl (fun i => v.ownBlock = some i) wr).alloc _).grown hg9 (fun i hi => .inl hi)) (fun e => HV.out.2.2.1 _ e (.inl rfl)) (fun e => HV.out.2.2.1 _ e (.inr rfl));have c97 : w9.cell? ⟨ab,7,none⟩ = some (.slice va vl vc) := (by rw [<- HVv.out];exact (hA9.a.cell 7).trans rfl);have f97 := hA9.a.frozen 7;have HA9 := Lib.hid hA9;clear hown9 hg9 hat9 hA9;rw [hv9];clear hv9;simp [Act.put])
         have hnl : (linkR RR).length = n := by rw [linkR_len];exact HRi.out.2.2.2.2
         have hlvN := lvW_more (W := wr.alloc (.cells #[.slice (some ⟨rb,0,none⟩) n cr] 49)) (W2 := w9) (N := fun i => i = ab ∨ i = gb) (R := linkR RR) (rb := rb) (cr := cr)
          (fun i Q hi => by
           obtain ⟨b,c,h1,h2,h3,h4,h5,h6⟩ := HV.out.2.1 i Q hi
           exact ⟨b,c,h1,h2,h3,h4,h5,h6.kept ((Keeps.refl NoB wr).alloc _) (fun e => e)⟩) HV.out.2.2.2.2.2.2 HV.out.2.2.1
          (fun i hi => by
           have h1 := HV.out.2.2.2.2.1
           have h2 := ((HV.out.2.2.2.2.2.1.alloc (.cells #[.slice (some ⟨rb,0,none⟩) n cr] 49)).size)
           rcases hi with rfl | rfl <;> omega)
          (HRr.out.kept ((Keeps.refl NoB wr).alloc _) (fun e => e)) (by rw [hnl];have := HRi.out;omega) HRi.out.2.2.2.1 HV.out.2.2.2.1 (fun e => by have := HV.out.2.2.2.2.1;have := HRi.out.2.1;rcases e with e | e <;> omega)
          (by rw [hnl];exact HO9.out.1) HO9.out.2.1 HO9.out.2.2.1
         rw [HO9.out.2.2.2] at hlvN
         have HE := Lib.hid (show LevelP w (w9.setCell ⟨ab,7,none⟩ (.slice a9 l9 c9)) (.returned (.bool true)) ab gb cb d v lv per l from by
          refine .inr ⟨{ layR d1 (linkR RR) with lv := d1.lv ++ [linkR RR] },.slice a9 l9 c9,?_,rfl,?_,?_,?_,?_⟩
          ·unfold levelA
           rw [HD.out.eq]
           rfl
          ·have h1 := HA9.out.a.set 7 (.slice a9 l9 c9)
           rw [arC_set7 gb cb _ v _ (d1.lv ++ [linkR RR])] at h1
           exact ⟨h1,rfl,HA9.out.b.other 7 _ (fun e => HA9.out.ne e.symm),HA9.out.ne⟩
          ·have e1 : d1.lv = d.lv := (rowsG_ok _ _ HT.out.2.1 HD.out.eq).2.2.1
           show LvW _ _ _ (d1.lv ++ [linkR RR])
           rw [e1]
           exact hlvN.kept ((Keeps.refl (fun i => i = ab) w9).setCell (p := ⟨ab,7,none⟩) (.inl rfl) _) (fun i e => .inl e)
          ·intro g9 hg9
           have h9 := HO9.out.2.2.1
           rw [HO9.out.2.2.2,hg9] at h9
           rcases h9 with h9 | h9
           ·exact .inl h9.symm
           ·cases h9
            exact .inr ((HV.out.2.2.2.2.2.1.alloc (.cells #[.slice (some ⟨rb,0,none⟩) n cr] 49)).size)
          ·exact ((((HV.out.2.2.2.2.2.1.mono (fun i hi e => (.inl e : (i = ab ∨ i = gb) ∨ v.ownBlock = some i))).alloc _).grown HO9.out.2.1 (fun i hi => .inl (.inr hi))).setCell (p := ⟨ab,7,none⟩) (.inl (.inl (.inl rfl))) _))
         clear hlvN hnl
         go_wp2_with (fail)
         go_ret
         exact HE.out
      ·have hb4 : ((fr : Int) + (on : Int) == (l.length : Int)) = false := by have := HOw.out.2.2;simp;omega
       have HRn := Lib.hid (HM.out.2 hle)
       clear HM
       go_wp2_with (fail)
       go_roundw
       case rel => exact ⟨k + 1,_,_,fr + per,by go_num,Lib.hid (by rw [HFr.out,Nat.add_mul,Nat.one_mul]),HRn⟩
       case measure => simp [intOf];omega
/-! . -/
set_option maxRecDepth 1000000 in
set_option maxHeartbeats 40000000 in
theorem alevel_nil0 (w : World) (ab gb cb : Nat) (d : AD) (v : Value) (per lv : Nat) (l : List (Int × Int)) (hlv : 0 = lv) (hl : [] = l) (h : ArW w ab gb cb d v) (ho : ArOk d) (hv : LvW w (fun i => i = ab ∨ i = gb) v d.lv) (h8 : 2 <= per /\ per <= 8) (hdl : d.lv.length <= 1000) :
  Calls Tryz.prog 33 #[.pointer (some ⟨ab,0,none⟩),.int .i64 0,.slice none 0 0,.int .i64 per] w fun e w' => LevelP w w' e ab gb cb d v lv per l := by
 have HLv := Lib.hid (And.intro hlv hl)
 have HT := Lib.hid (And.intro h (And.intro ho (And.intro hv (And.intro (show lv <= 15 by omega) (And.intro (show U64E l from by rw [<- hl];exact U64E.of (fun i hi => absurd hi (Nat.not_lt_zero _))) hdl)))))
 have hpc : (per : Int) <= 8 := by omega
 have hp0 : (2 : Int) <= per := by omega
 obtain ⟨a,ha⟩ : ∃ a,(newNodeA d).1 = a := ⟨_,rfl⟩
 obtain ⟨d1,hd1⟩ : ∃ d1,(newNodeA d).2 = d1 := ⟨_,rfl⟩
 have hnn := anewNode_v w ab gb cb d v h ho
 rw [ha,hd1] at hnn
 have HNn := Lib.hid hnn
 have hok := newNodeA_ok ho
 rw [ha,hd1] at hok
 have hai : (a : Int) < 1000000000 := by
  by_cases e : a = 0
  ·omega
  ·have h1 := hok.2.2.2 e
   have h2 := hok.1.len
   have h3 := hok.1.sl
   omega
 have HAd := Lib.hid (And.intro ha (And.intro hd1 hok))
 have hmin : (if (0 : Int) < (per : Int) then (0 : Int) else (per : Int)) = 0 := by split <;> omega
 have HP := Lib.hid h8
 clear h ho hv hdl hnn hok ha hd1 h8 hlv hl
 go_enter Tryz.func33,Tryz.ntmps33
 go_upto_region 3 with (fail)
 go_loopw [9,10] (fun rv iv wr => rv = .slice none 0 0 /\ iv = .int .i64 0 /\ w = wr) (fun _ iv _ => 10 - (intOf iv).toNat)
 case atStart => exact ⟨rfl,rfl,rfl⟩
 case round =>
  obtain ⟨rfl,rfl,rfl⟩ := hrel
  go_upto_region 6 with (fail)
  clear hmin
  go_upto_region 7 with (go_at_call 58;refine HNn.out.mono ?_;rintro e w1 ⟨rfl,hA1,hk1⟩)
  have HA1 := Lib.hid hA1
  have HK1 := Lib.hid hk1
  clear hA1 hk1 HNn
  by_cases ha0 : a = 0
  ·subst ha0
   have HNo := Lib.hid (show levelA d lv per l = none from by
    unfold levelA
    rw [rowsG_succ lv per l l.length,HAd.out.1,if_pos rfl]
    rfl)
   clear HA1 HAd
   go_wp2_with (fail)
   go_ret
   exact .inl ⟨HNo.out,rfl,HK1.out⟩
  have haz : ((a : Int) == 0) = false := by simp;omega
  have haw : IntKind.u64.wrap (a : Int) = (a : Int) := IntWalk.u64_in _ (by omega)
  go_upto_region 9 with (fail)
  obtain ⟨xb,hxb⟩ : ∃ xb,w1.heap.size = xb := ⟨_,rfl⟩
  have HXb := Lib.hid hxb
  have hz := Blk.new w1 (atC 0 nd0) 48
  have hzr := hz.row (atC a (mkNd 0 0 0 a []))
  have hB2 : Below w1.heap.size w1 ((w1.alloc (.cells (atC 0 nd0) 48)).setRow w1.heap.size (atC a (mkNd 0 0 0 a []))) := below_setRow ((Below.refl w1.heap.size w1).alloc (Nat.le_refl _) _) (Nat.le_refl _) _
  rw [hxb] at hz hzr
  have hB3 := hB2
  rw [hxb] at hB2
  have HZ := Lib.hid hz
  obtain ⟨w2,hw2⟩ : ∃ w2,(w1.alloc (.cells (atC 0 nd0) 48)).setRow xb (atC a (mkNd 0 0 0 a [])) = w2 := ⟨_,rfl⟩
  rw [hw2] at hzr hB2
  have HW2 := Lib.hid hw2
  have HX2 := Lib.hid hzr
  have HB2 := Lib.hid hB2
  clear hz hzr hB2 hB3 hw2 hxb
  go_upto_region 10 with (first
   | ((with_reducible refine wpList_bld (o := ⟨some 43,.build 46 _,_,_,_,_⟩) ?hgd 46 _ ?hob0 (ndCells (mkNd 0 0 0 a [])) ?hbb ?_);(case hgd => rfl);(case hob0 => rfl);(case hbb => exact built_lv 0 a))
   | ((with_reducible refine wpList_bld (o := ⟨some 44,.build 48 _,_,_,_,_⟩) ?hgd2 48 _ ?hob2 (atC a (mkNd 0 0 0 a [])) ?hbb2 ?_);(case hgd2 => rfl);(case hob2 => rfl);(case hbb2 => exact built_at a 0 a))
   | ((with_reducible refine wpList_alloc_at (o := ⟨some 13,_,_,_,_,_⟩) rfl rfl xb ?hz ?_);(case hz => exact HXb.out))
   | ((with_reducible refine wpList_store_at (o := ⟨none,.store 48 (.tmp 13) (.tmp 44),_,_,_,_⟩) ?hgc (.tmp 13) (.tmp 44) ?hoc xb ?cs a (mkNd 0 0 0 a []) 0 nd0 ?hxc ?hyc ?hbc ?hmc ?_);(case hgc => rfl);(case hoc => rfl);(case hxc => rfl);(case hyc => rfl);(case hmc => rfl);(case hbc => exact HZ.out);rw [HW2.out];simp [Act.put]))
  have n1 : w2.cell? ⟨xb,2,none⟩ = some (.int .u64 0) := (HX2.out.cell 2).trans rfl
  have f1 : w2.frozen? ⟨xb,2,none⟩ = false := HX2.out.frozen 2
  have hX3 := HX2.out.set 2 (.int .u64 0)
  rw [atC_lo] at hX3
  have HX3 := Lib.hid (show Blk (w2.setCell ⟨xb,2,none⟩ (.int .u64 0)) xb (atC a (mkNd 0 0 0 a [])) 48 from hX3)
  have HB3 := Lib.hid (HB2.out.setCell (p := ⟨xb,2,none⟩) (Nat.le_refl _) (.int .u64 0))
  clear hX3 HZ HW2
  go_upto_region 19 with (fail)
  obtain ⟨w6,hw6⟩ : ∃ w6,w2.setCell ⟨xb,2,none⟩ (.int .u64 0) = w6 := ⟨_,rfl⟩
  rw [hw6] at HX3 HB3 ⊢
  clear hw6 n1 f1 HX2 HB2
  go_loopw [15] (fun iv wr => iv = .int .i64 0 /\ w6 = wr) (fun iv _ => 10 - (intOf iv).toNat)
  case atStart => exact ⟨rfl,rfl⟩
  case round =>
   obtain ⟨rfl,rfl⟩ := hrel
   obtain ⟨wr,rfl⟩ : ∃ wr,wr = w6 := ⟨_,rfl⟩
   obtain ⟨nd,hnd⟩ : ∃ nd,mkNd 0 0 0 a [] = nd := ⟨_,rfl⟩
   have hHX := HX3.out
   rw [hnd] at hHX
   have HXe := Lib.hid hHX
   have HLd := Lib.hid (show ∀ i u,(atC a nd)[i]? = some u -> wr.cell? ⟨xb,0 + i,none⟩ = some u from fun i u hi => by rw [Nat.zero_add];exact (HXe.out.cell i).trans hi)
   have hkx : Keeps (fun i => xb <= i) w1 wr := Keeps.of_below HB3.out
   have HKr2 := Lib.hid (HK1.out.trans' hkx (fun i hi (e : xb <= i) => show i = ab ∨ i = gb from by have := HXb.out;have := HK1.out.size;omega))
   have HAr := Lib.hid (show ArW wr ab gb cb d1 v from HA1.out.kept hkx (fun e => by have := HXb.out;have := HA1.out.a.lt;omega) (fun e => by have := HXb.out;have := HA1.out.b.lt;omega))
   have HNd := Lib.hid hnd
   clear hHX HX3 HB3 hnd hkx
   go_upto_region 23 with ((with_reducible refine wpList_load_part (o := ⟨some 97,.load 48 (.tmp 13),_,_,_,_⟩) ?hg 48 (.tmp 13) ?ho xb 0 ?hx (atC a nd) ?dd ?hc ?hu ?hd ?hi ?_);(case hg => rfl);(case ho => rfl);(case hx => rfl);(case hc => exact HLd.out);(case hu => exact Tryz.underlying48);(case hd => rfl);(case hi => exact infoAt a nd);(with_reducible refine wpList_bs_at (o := ⟨some 98,_,_,_,_,_⟩) ?hgb (.tmp 97) ?hob a nd ?hxb ?_);(case hgb => rfl);(case hob => rfl);(case hxb => exact ev_tmp (by simp [Act.put]));(with_reducible refine wpList_append_atl (o := ⟨some 99,_,_,_,_,_⟩) ?hga (.tmp 96) (.tmp 98) ?hoa w.heap.size (.slice none 0 0) [] (a,nd) ?hsa ?hna wr.heap.size ?hxa ?hba ?hta ?hBa ?_);(case hga => rfl);(case hoa => rfl);(case hsa => exact ev_tmp (by simp [Act.put]));(case hxa => exact ev_tmp (by simp [Act.put]));(case hna => exact ⟨rfl,.inl ⟨rfl,rfl⟩⟩);(case hba => exact Blk.new wr _ _);(case hta => exact Nat.zero_le _);(case hBa => exact ((HKr2.out.alloc _).size));intro rv' w8 hown8 hgr8;simp [Act.put])
   have hk8 : Keeps (fun i => w.heap.size <= i) wr w8 := ((Keeps.refl _ wr).alloc _).grown hgr8 (fun i hi => by cases hi)
   have HAr8 := Lib.hid (show ArW w8 ab gb cb d1 v from HAr.out.kept hk8 (fun e => by have := HT.out.1.a.lt;omega) (fun e => by have := HT.out.1.b.lt;omega))
   obtain ⟨R,hR⟩ : ∃ R : List (Nat × Nd),[] = R := ⟨_,rfl⟩
   replace hown8 : w8.ownsRow w.heap.size 48 22 rv' (R ++ [(a,nd)]).length (atcs (R ++ [(a,nd)])) := by rw [<- hR];exact hown8
   have HD := Lib.hid (show LvD w w8 ab gb cb d v lv per l (R ++ [(a,nd)]) d1 rv' from ⟨hown8,HAr8.out,HKr2.out.trans' hk8 (fun i hi e => by omega),by
    rw [rowsG_succ lv per l l.length,HAd.out.1,if_neg ha0,HAd.out.2.1,<- HLv.out.2,<- HLv.out.1,<- HNd.out,<- hR,if_pos (show ([] : List (Int × Int)).length <= 0 + per from Nat.zero_le _),show ownG [] per 0 = [] by simp [ownG]]
    rfl⟩)
   have HKl := Lib.hid (show (R ++ [(a,nd)]).length <= 1001 from by rw [<- hR];simp)
   have HOk1 := Lib.hid HAd.out.2.2.1
   clear hown8 hgr8 hk8 HAr HKr2 HLd HAr8 hR HNd
   obtain ⟨RR,hRR⟩ : ∃ RR,R ++ [(a,nd)] = RR := ⟨_,rfl⟩
   rw [hRR] at HD
   have hpos : 0 < RR.length := by rw [<- hRR,List.length_append];exact Nat.succ_pos _
   obtain ⟨rb,cr,rfl,hrb,hrc,hrm,hrow⟩ := own_rowB HD.out.own hpos
   obtain ⟨n,hnn⟩ : ∃ n,RR.length = n := ⟨_,rfl⟩
   have HRi := Lib.hid (And.intro hrow (And.intro hrb (And.intro hrc (And.intro hrm hnn))))
   have hok1 := HOk1.out
   have HOk := Lib.hid hok1
   have HAx := Lib.hid HD.out.ar
   have hn100 : (n : Int) <= 1001 := by have := HKl.out;rw [hRR,hnn] at this;omega
   rw [hnn] at hrc ⊢
   clear hRR hpos hrow hrb hrm hok1 hnn
   go_upto_region 25 with (fail)
   go_loopw [16] (fun iv wr => ∃ i : Nat,i <= n /\ iv = .int .i64 i /\ Hid (RowAtB wr rb ((linkR RR).take i ++ RR.drop i)) /\ Hid (ArW wr ab gb cb (layR d1 ((linkR RR).take i)) v) /\ Hid (Keeps (fun x => x = rb ∨ x = gb) w8 wr)) (fun iv _ => n - (intOf iv).toNat)
   case atStart => exact ⟨0,Nat.zero_le _,rfl,HRi.out.1,HAx,Lib.hid (Keeps.refl _ _)⟩
   case round =>
    obtain ⟨i,hi,rfl,HRr,HAr,HKr⟩ := hrel
    by_cases hlt : i < n
    ·have hi3 : (i : Int) < (n : Int) := by omega
     obtain ⟨⟨xa,xn⟩,hx⟩ : ∃ x,RR[i]? = some x := ⟨_,List.getElem?_eq_getElem (by have := HRi.out.2.2.2.2;omega)⟩
     obtain ⟨y2,hy2⟩ : ∃ y2,lnk1 RR i (xa,xn) = (xa,y2) := ⟨_,rfl⟩
     have HX := Lib.hid (And.intro hx hy2)
     have HLt := Lib.hid hlt
     have hi10 : (i : Int) <= 1001 := by omega
     have hiR : i < RR.length := by have := HRi.out.2.2.2.2;omega
     have HiR := Lib.hid hiR
     obtain ⟨q,hq⟩ : ∃ q : Bool,decide ((i : Int) + 1 < (n : Int)) = q := ⟨_,rfl⟩
     have HQ := Lib.hid hq
     clear hx hy2 hiR
     go_upto_if 114 with (fail)
     clear hq
     go_cut [] (fun wx => Hid (RowAtB wx rb ((linkR RR).take (i + 1) ++ RR.drop (i + 1))) /\ Hid (Keeps (fun x => x = rb) wr wx))
     case first =>
      cases q with
      | true =>
       have hi1 : i + 1 < n := by have := HQ.out;simp at this;omega
       obtain ⟨⟨ya,yn⟩,hy⟩ : ∃ y,RR[i + 1]? = some y := ⟨_,List.getElem?_eq_getElem (by have := HRi.out.2.2.2.2;omega)⟩
       have hq9 : ((i : Int) + 1).toNat = i + 1 := by omega
       have c0 : wr.cell? ⟨rb,(i + 1) * 22,none⟩ = some (.int .u64 (ya : Int)) := (HRr.out.cell (j := i + 1) (k := 0) ((link_at HiR.out (by omega)).trans hy) (by decide)).trans rfl
       have n0 : wr.cell? ⟨rb,i * 22 + 3,none⟩ = some (.int .u64 xn.nx) := (HRr.out.cell (j := i) (k := 3) ((link_at HiR.out (Nat.le_refl _)).trans HX.out.1) (by decide)).trans rfl
       have f0 := HRr.out.frozen (i * 22 + 3)
       have hr2 := HRr.out.set (j := i) (k := 3) (u := .int .u64 (ya : Int)) (y := (xa,y2)) ((link_at HiR.out (Nat.le_refl _)).trans HX.out.1) (by
        rw [atC_nx]
        have := HX.out.2
        unfold lnk1 at this
        rw [hy] at this
        rw [<- (Prod.mk.inj this).2]) (by decide)
       rw [link_set HX.out.1 HX.out.2] at hr2
       have HR2 := Lib.hid hr2
       have HK2 := Lib.hid ((Keeps.refl (fun x => x = rb) wr).setCell (p := ⟨rb,i * 22 + 3,none⟩) (.inl rfl) (.int .u64 (ya : Int)))
       clear hr2 hy
       go_wp2_with (fail)
       go_meet
       exact ⟨HR2,HK2⟩
      | false =>
       have hi1 : ¬ i + 1 < n := by have := HQ.out;simp at this;omega
       have HR2 := Lib.hid (show RowAtB wr rb ((linkR RR).take (i + 1) ++ RR.drop (i + 1)) from by
        have h1 := HX.out.2
        unfold lnk1 at h1
        rw [show RR[i + 1]? = none from List.getElem?_eq_none (by have := HRi.out.2.2.2.2;omega)] at h1
        rw [<- link_same HX.out.1 (by rw [HX.out.2,<- (Prod.mk.inj h1).2])]
        exact HRr.out)
       go_wp2_with (fail)
       go_meet
       exact ⟨HR2,Lib.hid (Keeps.refl _ _)⟩
     case rest =>
      obtain ⟨HR2,HK2⟩ := hcut
      obtain ⟨wq,rfl⟩ : ∃ wq,wq = wc := ⟨_,rfl⟩
      have hab : ab < w.heap.size /\ gb < w.heap.size := ⟨HT.out.1.a.lt,HT.out.1.b.lt⟩
      have hrb0 := HRi.out.2.1
      have hxi : ((linkR RR).take (i + 1) ++ RR.drop (i + 1))[i]? = some (xa,y2) := by rw [<- link_set HX.out.1 HX.out.2,List.getElem?_set_self (by rw [List.length_append,List.length_take,linkR_len,List.length_drop];have := HiR.out;omega)]
      have HRx := Lib.hid (show RowAtB wq rb ((linkR RR).take (i + 1) ++ RR.drop (i + 1)) /\ rb ≠ gb /\ (∀ j u,(ndCells y2)[j]? = some u -> wq.cell? ⟨rb,i * 22 + 1 + j,none⟩ = some u) /\ wq.cell? ⟨rb,i * 22,none⟩ = some (.int .u64 (xa : Int)) from
       ⟨HR2.out,by omega,fun j u hj => by
        have hj21 : j < 21 := by
         have := (Array.getElem?_eq_some_iff.1 hj).1
         rwa [ndCells_size] at this
        have h1 := HR2.out.cell (j := i) (k := 1 + j) hxi (by omega)
        rw [atC_succ,hj,show i * 22 + (1 + j) = i * 22 + 1 + j by omega] at h1
        exact h1,(HR2.out.cell (j := i) (k := 0) hxi (by decide)).trans rfl⟩)
      obtain ⟨d2,hd2⟩ : ∃ d2,layR d1 ((linkR RR).take i) = d2 := ⟨_,rfl⟩
      have HArx := Lib.hid (show ArW wq ab gb cb d2 v from by rw [<- hd2];exact HAr.out.kept HK2.out (fun e => by omega) (fun e => by omega))
      have HLy := Lib.hid (show ∀ W,ArW W ab gb cb d2 v -> Calls Tryz.prog 59 #[.pointer (some ⟨ab,0,none⟩),.int .u64 (xa : Int),.agg (ndCells y2)] W fun e w' => e = .returned (.tuple #[]) /\ ArW w' ab gb cb (layA d2 xa y2) v /\ Keeps (fun i => i = gb) W w' from fun W hW => by
       have h1 := rowsG_ok _ _ HT.out.2.1 HD.out.eq
       have h2 := rowsG_wf HT.out.2.2.2.1 HT.out.2.2.2.2.1 _ _ HT.out.2.1 HD.out.eq
       have hL : d.L.length <= 1000000 := by have := HT.out.2.1.len;have := HT.out.2.1.sl;omega
       have hL1 : d1.L.length = d.L.length := by rw [h1.1.len,h1.2.1,HT.out.2.1.len]
       have hm : ∀ x ∈ (linkR RR).take i,x.1 + 192 <= d1.L.length := by
        intro x hx
        obtain ⟨j,hj⟩ := List.mem_iff_getElem?.1 (List.mem_of_mem_take hx)
        rw [linkR_get] at hj
        obtain ⟨y,hy,rfl⟩ := Option.map_eq_some_iff.1 hj
        rw [hL1]
        exact (h1.2.2.2.1 y (List.mem_of_getElem? hy)).2
       have h3 := layR_ok _ h1.1 hm
       rw [hd2] at h3
       refine alay_v W ab gb cb d2 v xa y2 hW ?_ ?_ ?_
       ·have := lnk1_wf hL (fun x hx => (h2 x hx).1) (fun x hx => (h1.2.2.2.1 x hx).2) HX.out.1
        rw [HX.out.2] at this
        exact this
       ·rw [h3.2,hL1];exact (h1.2.2.2.1 _ (List.mem_of_getElem? HX.out.1)).2
       ·rw [h3.2,hL1];exact hL)
      have HD2 := Lib.hid hd2
      have HKq := Lib.hid (HKr.out.trans (HK2.out.mono (fun i hi e => .inl e)))
      clear hab hrb0 hxi hd2 HAr HR2 HK2 HRr
      go_upto_region 29 with (fail)
      refine wp_region_vals [Is (.pointer (some ⟨ab,0,none⟩)),Is (.slice (some ⟨rb,0,none⟩) n cr),Is (.int .i64 (i : Nat)),Is (.pointer (some ⟨rb,i * 22,none⟩)),Is (.pointer (some ⟨rb,i * 22,none⟩)),Is (.int .u64 (xa : Int)),Is (.slice (some ⟨rb,0,none⟩) n cr),Is (.int .i64 (i : Nat)),Is (.pointer (some ⟨rb,i * 22,none⟩)),Is (.pointer (some ⟨rb,i * 22 + 1,none⟩)),Is (.agg (ndCells y2)),Is (.tuple #[])]
       (fun _ _ _ => True) (fun L W => CallG 11 wq gb (fun W' => ArW W' ab gb cb (layA d2 xa y2) v) L W) (by kernel_rfl) (by kernel_rfl) (by kernel_rfl) ?hst ?h0 ⟨?o0,?o1,?o2,?o3,?o4,?o5,?o6,?o7,?o8,?o9,?o10,?o11,trivial⟩ ?he
      any_goals (intro L vs A W H hf hd K hK)
      case hst => repeat' (first | exact trivial | refine ⟨fun _ _ _ _ _ _ h _ => h,?_⟩)
      case h0 =>
       exact CallG.start 11 wq gb _
      case o0 => have e0 : A.tmps[0]?.getD undef = .pointer (some ⟨ab,0,none⟩) := H.old 0 (by kernel_rfl);go_simp;exact hK _ _ (trivial) rfl (H.glob.keep rfl)
      case o1 => have e9 : A.tmps[9]?.getD undef = .slice (some ⟨rb,0,none⟩) n cr := H.old 9 (by kernel_rfl);go_simp;exact hK _ _ (trivial) rfl (H.glob.keep rfl)
      case o2 => have e16 : A.tmps[16]?.getD undef = .int .i64 (i : Nat) := H.old 16 (by kernel_rfl);go_simp;exact hK _ _ (trivial) rfl (H.glob.keep rfl)
      case o3 => have e127 := H.iz hd 1 127 rfl rfl rfl (by kernel_rfl);have e128 := H.iz hd 2 128 rfl rfl rfl (by kernel_rfl);go_simp;exact hK _ _ (trivial) rfl (H.glob.keep rfl)
      case o4 => have e129 := H.iz hd 3 129 rfl rfl rfl (by kernel_rfl);go_simp;exact hK _ _ (trivial) rfl (H.glob.keep rfl)
      case o5 => have e130 := H.iz hd 4 130 rfl rfl rfl (by kernel_rfl);have d0 : W.cell? ⟨rb,i * 22,none⟩ = some (.int .u64 (xa : Int)) := (H.glob.kp.cell (p := ⟨rb,i * 22,none⟩) HRx.out.1.lt HRx.out.2.1).trans HRx.out.2.2.2;go_simp;exact hK _ _ (trivial) rfl (H.glob.keep rfl)
      case o6 => have e9 : A.tmps[9]?.getD undef = .slice (some ⟨rb,0,none⟩) n cr := H.old 9 (by kernel_rfl);go_simp;exact hK _ _ (trivial) rfl (H.glob.keep rfl)
      case o7 => have e16 : A.tmps[16]?.getD undef = .int .i64 (i : Nat) := H.old 16 (by kernel_rfl);go_simp;exact hK _ _ (trivial) rfl (H.glob.keep rfl)
      case o8 => have e132 := H.iz hd 6 132 rfl rfl rfl (by kernel_rfl);have e133 := H.iz hd 7 133 rfl rfl rfl (by kernel_rfl);go_simp;exact hK _ _ (trivial) rfl (H.glob.keep rfl)
      case o9 => have e134 := H.iz hd 8 134 rfl rfl rfl (by kernel_rfl);go_simp;exact hK _ _ (trivial) rfl (H.glob.keep rfl)
      case o10 => have e135 := H.iz hd 9 135 rfl rfl rfl (by kernel_rfl);have HL := Lib.hid (show ∀ j u,(ndCells y2)[j]? = some u -> W.cell? ⟨rb,i * 22 + 1 + j,none⟩ = some u from fun j u hu => (H.glob.kp.cell (p := ⟨rb,i * 22 + 1 + j,none⟩) HRx.out.1.lt HRx.out.2.1).trans (HRx.out.2.2.1 j u hu));exact wp_ld_part 46 _ rfl rb (i * 22 + 1) (ev_tmp e135) (ndCells y2) _ HL.out Tryz.underlying46 rfl (info27 y2) (hK _ _ trivial rfl (H.glob.keep rfl))
      case o11 => have e126 := H.iz hd 0 126 rfl rfl rfl (by kernel_rfl);have e131 := H.iz hd 5 131 rfl rfl rfl (by kernel_rfl);have e136 := H.iz hd 10 136 rfl rfl rfl (by kernel_rfl);have HB := Lib.hid (H.glob.n hf);have HL := Lib.hid (HLy.out W (HArx.out.below HB.out));go_simp;refine HL.out.mono ?_;rintro e w' ⟨rfl,hA,hk⟩;go_simp;exact hK _ _ trivial rfl (CallG.call hA (((Keeps.of_below' HB.out).mono (fun _ _ h => h.elim)).trans hk))
      case he =>
       intro vs W hlen hv
       match vs,hlen,hv with
       | [x0_,x1_,x2_,x3_,x4_,x5_,x6_,x7_,x8_,x9_,x10_,x11_],_,hv =>
       obtain rfl := isv hv 0 rfl rfl;obtain rfl := isv hv 1 rfl rfl;obtain rfl := isv hv 2 rfl rfl;obtain rfl := isv hv 3 rfl rfl;obtain rfl := isv hv 4 rfl rfl;obtain rfl := isv hv 5 rfl rfl;obtain rfl := isv hv 6 rfl rfl;obtain rfl := isv hv 7 rfl rfl;obtain rfl := isv hv 8 rfl rfl;obtain rfl := isv hv 9 rfl rfl;obtain rfl := isv hv 10 rfl rfl;obtain rfl := isv hv 11 rfl rfl
       intro L hall hG
       clear hv hlen
       have HG1 := Lib.hid (hG.y (hall 11 (by decide)))
       have HKt := Lib.hid hG.kp
       clear hG hall
       simp only [fill,if_true]
       simp [Act.put]
       have HE1 := Lib.hid (show ArW W ab gb cb (layR d1 ((linkR RR).take (i + 1))) v from by
        have e : (linkR RR).take (i + 1) = (linkR RR).take i ++ [(xa,y2)] := by
         rw [List.take_add_one,linkR_get,HX.out.1,Option.map_some,HX.out.2];rfl
        rw [e,layR_snoc,HD2.out]
        exact HG1.out)
       have HE2 := Lib.hid (HRx.out.1.kept HKt.out HRx.out.2.1)
       have HE3 := Lib.hid (HKq.out.trans (HKt.out.mono (fun i hi e => .inr e)))
       clear HG1 HKt HRx HKq HLy HArx
       go_wp2_with (fail)
       go_roundw
       case rel => exact ⟨i + 1,HLt.out,by go_num,HE2,HE1,HE3⟩
       case measure => have := HLt.out;simp [intOf];omega
    ·have hin : i = n := by omega
     have hi3 : ¬ (i : Int) < (n : Int) := by omega
     have hl1 : (linkR RR).take i ++ RR.drop i = linkR RR := by
      rw [hin,<- HRi.out.2.2.2.2,List.drop_length,List.append_nil,List.take_of_length_le (by rw [linkR_len];exact Nat.le_refl _)]
     have hl2 : (linkR RR).take i = linkR RR := by
      rw [hin,<- HRi.out.2.2.2.2,List.take_of_length_le (by rw [linkR_len];exact Nat.le_refl _)]
     rw [hl1] at HRr
     rw [hl2] at HAr
     clear hl1 hl2
     have hkW := HD.out.kp.trans' HKr.out (fun x hx (e : x = rb ∨ x = gb) => show x = ab ∨ x = gb from by have := HRi.out.2.1;rcases e with e | e;omega;exact .inr e)
     have hlvW := HT.out.2.2.1.kept hkW (fun x e => e)
     obtain ⟨⟨vs,hvo,hvr⟩,hvn⟩ := hlvW
     have hvb : v.ownBlock ≠ some rb := fun e => by have := own_ltK (HT.out.2.2.1.ex.choose_spec.1) rb e;have := HRi.out.2.1;omega
     have hab : ab < w.heap.size /\ gb < w.heap.size := ⟨HT.out.1.a.lt,HT.out.1.b.lt⟩
     have hvl : vs.length = d.lv.length := by have := hvo.1;omega
     have HV := Lib.hid (And.intro hvo (And.intro hvr (And.intro hvn (And.intro hvb (And.intro hab (And.intro hkW hvl))))))
     obtain ⟨va,vl,vc,hv⟩ := own_slice hvo
     have c7 : wr.cell? ⟨ab,7,none⟩ = some (.slice va vl vc) := by rw [<- hv];exact (HAr.out.a.cell 7).trans rfl
     have HVv := Lib.hid hv
     obtain ⟨i0,hi0,hz0,hz1,hz2⟩ := infoRowK
     have HI0 := Lib.hid (And.intro hi0 (And.intro hz0 (And.intro hz1 hz2)))
     clear hvo hvr hvn hvb hab hkW hv hi0 hz0 hz1 hz2 hvl
     go_upto_region 31 with (at_builtin;(with_reducible refine wpList_append_own_at _ ?g1 (.tmp 142) (.tmp 144) 29 ?g2 0 49 i0 (.slice none 0 0) 1 24 ?g3 ?g4 ?g5 ?g6 ?g7 ?g8 ?g9 v d.lv.length vs ?g10 ?g11 ⟨wr.heap.size,0,none⟩ 1 1 [.slice (some ⟨rb,0,none⟩) n cr] ?g12 ?g13 ?g14 ?g15 ?g16 ?g17 ?g18 ?g19);(case g1 => rfl);(case g2 => rfl);(case g3 => exact Tryz.underlying29);(case g4 => exact HI0.out.1);(case g5 => exact HI0.out.2.1);(case g6 => exact HI0.out.2.2.1);(case g7 => exact HI0.out.2.2.2);(case g8 => rfl);(case g9 => decide);(case g10 => rw [HVv.out];exact ev_tmp (by simp));(case g11 => exact own_keptK HV.out.1 ((Keeps.refl NoB wr).alloc _) (fun _ _ e => e));(case g12 => exact ev_tmp (by simp));(case g13 => rfl);(case g14 => exact cell_one_new _ _ _);(case g15 => simp [Value.oneCell']);(case g16 => have := HT.out;unfold maxLen;omega);(case g17 => have := HT.out;omega);(case g18 => exact Nat.zero_le _);intro v9 w9 hown9 hg9 _ hat9;obtain ⟨a9,l9,c9,hv9⟩ := own_slice hown9;have HO9 := Lib.hid (And.intro hown9 (And.intro hg9 (And.intro hat9 hv9)));have hA9 := HAr.out.kept (((Keeps.refl (fun i => v.ownBlock = some i) wr).alloc _).grown hg9 (fun i hi => .inl hi)) (fun e => HV.out.2.2.1 _ e (.inl rfl)) (fun e => HV.out.2.2.1 _ e (.inr rfl));have c97 : w9.cell? ⟨ab,7,none⟩ = some (.slice va vl vc) := (by rw [<- HVv.out];exact (hA9.a.cell 7).trans rfl);have f97 := hA9.a.frozen 7;have HA9 := Lib.hid hA9;clear hown9 hg9 hat9 hA9;rw [hv9];clear hv9;simp [Act.put])
     have hnl : (linkR RR).length = n := by rw [linkR_len];exact HRi.out.2.2.2.2
     have hlvN := lvW_more (W := wr.alloc (.cells #[.slice (some ⟨rb,0,none⟩) n cr] 49)) (W2 := w9) (N := fun i => i = ab ∨ i = gb) (R := linkR RR) (rb := rb) (cr := cr)
      (fun i Q hi => by
       obtain ⟨b,c,h1,h2,h3,h4,h5,h6⟩ := HV.out.2.1 i Q hi
       exact ⟨b,c,h1,h2,h3,h4,h5,h6.kept ((Keeps.refl NoB wr).alloc _) (fun e => e)⟩) HV.out.2.2.2.2.2.2 HV.out.2.2.1
      (fun i hi => by
       have h1 := HV.out.2.2.2.2.1
       have h2 := ((HV.out.2.2.2.2.2.1.alloc (.cells #[.slice (some ⟨rb,0,none⟩) n cr] 49)).size)
       rcases hi with rfl | rfl <;> omega)
      (HRr.out.kept ((Keeps.refl NoB wr).alloc _) (fun e => e)) (by rw [hnl];have := HRi.out;omega) HRi.out.2.2.2.1 HV.out.2.2.2.1 (fun e => by have := HV.out.2.2.2.2.1;have := HRi.out.2.1;rcases e with e | e <;> omega)
      (by rw [hnl];exact HO9.out.1) HO9.out.2.1 HO9.out.2.2.1
     rw [HO9.out.2.2.2] at hlvN
     have HE := Lib.hid (show LevelP w (w9.setCell ⟨ab,7,none⟩ (.slice a9 l9 c9)) (.returned (.bool true)) ab gb cb d v lv per l from by
      refine .inr ⟨{ layR d1 (linkR RR) with lv := d1.lv ++ [linkR RR] },.slice a9 l9 c9,?_,rfl,?_,?_,?_,?_⟩
      ·unfold levelA
       rw [HD.out.eq]
       rfl
      ·have h1 := HA9.out.a.set 7 (.slice a9 l9 c9)
       rw [arC_set7 gb cb _ v _ (d1.lv ++ [linkR RR])] at h1
       exact ⟨h1,rfl,HA9.out.b.other 7 _ (fun e => HA9.out.ne e.symm),HA9.out.ne⟩
      ·have e1 : d1.lv = d.lv := (rowsG_ok _ _ HT.out.2.1 HD.out.eq).2.2.1
       show LvW _ _ _ (d1.lv ++ [linkR RR])
       rw [e1]
       exact hlvN.kept ((Keeps.refl (fun i => i = ab) w9).setCell (p := ⟨ab,7,none⟩) (.inl rfl) _) (fun i e => .inl e)
      ·intro g9 hg9
       have h9 := HO9.out.2.2.1
       rw [HO9.out.2.2.2,hg9] at h9
       rcases h9 with h9 | h9
       ·exact .inl h9.symm
       ·cases h9
        exact .inr ((HV.out.2.2.2.2.2.1.alloc (.cells #[.slice (some ⟨rb,0,none⟩) n cr] 49)).size)
      ·exact ((((HV.out.2.2.2.2.2.1.mono (fun i hi e => (.inl e : (i = ab ∨ i = gb) ∨ v.ownBlock = some i))).alloc _).grown HO9.out.2.1 (fun i hi => .inl (.inr hi))).setCell (p := ⟨ab,7,none⟩) (.inl (.inl (.inl rfl))) _))
     clear hlvN hnl
     go_wp2_with (fail)
     go_ret
     exact HE.out
theorem alevel_nil (w : World) (ab gb cb : Nat) (d : AD) (v : Value) (per : Nat) (h : ArW w ab gb cb d v) (ho : ArOk d) (hv : LvW w (fun i => i = ab ∨ i = gb) v d.lv) (h8 : 2 <= per /\ per <= 8) (hdl : d.lv.length <= 1000) :
  Calls Tryz.prog 33 #[.pointer (some ⟨ab,0,none⟩),.int .i64 0,.slice none 0 0,.int .i64 per] w fun e w' => LevelP w w' e ab gb cb d v 0 per [] :=
 alevel_nil0 w ab gb cb d v per 0 [] rfl rfl h ho hv h8 hdl
end Go.Proofs.YtodgfbjjjgohgaaGreat
