/-
 leveeref14: Arena.Lay: a contract.
-/
import Derived.Test.YtodgfbjjjgohgaaGreatKbZ
import Derived.Test.YtodgfbjjjgohgaaGreatKdZ
import Derived.Test.YtodgfbjjjgohgaaGreatNdZ
namespace Go.Proofs.YtodgfbjjjgohgaaGreat
open Go.RowKit

theorem wset5 (n : Nd) : wset (wset (wset (wset (wset (fun _ => 0) 0 (tagM + n.lv)) 1 n.lo) 2 n.nx) 3 n.ct) 4 n.fi = wTo n 0 := by
 funext j
 unfold wset wTo fullW
 by_cases h4 : j = 4
 ·subst h4;rfl
 by_cases h3 : j = 3
 ·subst h3;rfl
 by_cases h2 : j = 2
 ·subst h2;rfl
 by_cases h1 : j = 1
 ·subst h1;rfl
 by_cases h0 : j = 0
 ·subst h0;rfl
 rw [if_neg h4,if_neg h3,if_neg h2,if_neg h1,if_neg h0]
 by_cases h8 : j < 8 + 2 * 0
 ·rw [if_pos h8,if_neg h0,if_neg h1,if_neg h2,if_neg h3,if_neg h4,if_pos (by omega)]
 ·rw [if_neg h8]
theorem wset_next (n : Nd) (k : Nat) : wset (wset (wTo n k) (8 + 2 * k) (n.k k)) (9 + 2 * k) (n.p k) = wTo n (k + 1) := by
 funext j
 unfold wset wTo
 by_cases b : j = 9 + 2 * k
 ·rw [if_pos b,if_pos (by omega)]
  unfold fullW
  rw [if_neg (by omega),if_neg (by omega),if_neg (by omega),if_neg (by omega),if_neg (by omega),if_neg (by omega),if_neg (by omega)]
  congr 1;omega
 ·rw [if_neg b]
  by_cases a : j = 8 + 2 * k
  ·rw [if_pos a,if_pos (by omega)]
   unfold fullW
   rw [if_neg (by omega),if_neg (by omega),if_neg (by omega),if_neg (by omega),if_neg (by omega),if_neg (by omega),if_pos (by omega)]
   congr 1;omega
  ·rw [if_neg a]
   by_cases c : j < 8 + 2 * k
   ·rw [if_pos c,if_pos (by omega)]
   ·rw [if_neg c,if_neg (by omega)]
structure WrW (w : World) (n : Nd) (b1 b2 b3 : Nat) (f : Nat -> Int) (w' : World) : Prop where
 n : Blk w' b1 (ndCells n) 46
 r : Blk w' b2 (wdCells (fun _ => 0)) 154
 f : Blk w' b3 (wdCells f) 154
 b : Below w.heap.size w w'
 lt : w.heap.size <= b1 /\ b1 < b2 /\ b2 < b3
theorem WrW.set {w w' : World} {n : Nd} {b1 b2 b3 : Nat} {f : Nat -> Int} (h : WrW w n b1 b2 b3 f w') (i : Nat) (x : Int) : WrW w n b1 b2 b3 (wset f i x) (w'.setCell ⟨b3,i,none⟩ (.int .u64 x)) :=
 ⟨h.n.other i _ (by have := h.lt;omega),h.r.other i _ (by have := h.lt;omega),h.f.setw i x,h.b.setCell (p := ⟨b3,i,none⟩) (by have := h.lt;simp;omega) _,h.lt⟩

set_option maxRecDepth 100000 in
set_option maxHeartbeats 6400000 in
theorem rwords_lv (n : Nd) (hw : (Lit.int .i64 n.lv).wf = true) (w : World) :
  Calls Tryz.prog 74 #[.agg (ndCells n)] w fun e w' => e = .returned (.agg (wdCells (wordsF n))) /\ Below w.heap.size w w' := by
 have hk0 : Blk (w.alloc (.cells (ndCells n) 46)) w.heap.size (ndCells n) 46 := Blk.new w _ _
 have hs1 : (w.alloc (.cells (ndCells n) 46)).heap.size = w.heap.size + 1 := by simp
 have hb2 := Blk.new (w.alloc (.cells (ndCells n) 46)) (wdCells (fun _ => 0)) 154
 have hs2 : ((w.alloc (.cells (ndCells n) 46)).alloc (.cells (wdCells (fun _ => 0)) 154)).heap.size = w.heap.size + 2 := by simp
 have hb3 := Blk.new ((w.alloc (.cells (ndCells n) 46)).alloc (.cells (wdCells (fun _ => 0)) 154)) (wdCells (fun _ => 0)) 154
 rw [hs1] at hb2
 rw [hs2] at hb3
 have HZ := Lib.hid hs1
 have HZ2 := Lib.hid hs2
 have HW0 := Lib.hid (show WrW w n w.heap.size (w.heap.size + 1) (w.heap.size + 2) (fun _ => 0) (((w.alloc (.cells (ndCells n) 46)).alloc (.cells (wdCells (fun _ => 0)) 154)).alloc (.cells (wdCells (fun _ => 0)) 154)) from
  ⟨(hk0.alloc _).alloc _,hb2.alloc _,hb3,(((Below.refl w.heap.size w).alloc (Nat.le_refl _) _).alloc (by omega) _).alloc (by omega) _,by omega⟩)
 have hlb := i64_bounds hw
 clear hk0 hs1 hb2 hs2 hb3
 go_enter Tryz.func74,Tryz.ntmps74
 go_upto_region 2 with (first | (with_reducible refine wpList_alloc_wdAt (o := ⟨some 2,_,_,_,_,_⟩) rfl rfl (w.heap.size + 1) ?hz ?_;(case hz => exact HZ.out)) | (with_reducible refine wpList_alloc_wdAt (o := ⟨some 3,_,_,_,_,_⟩) rfl rfl (w.heap.size + 2) ?hy ?_;(case hy => exact HZ2.out)))
 go_simp
 obtain ⟨b1,hb1⟩ : ∃ x,w.heap.size = x := ⟨_,rfl⟩
 obtain ⟨b2,hb2⟩ : ∃ x,b1 + 1 = x := ⟨_,rfl⟩
 obtain ⟨b3,hb3⟩ : ∃ x,b1 + 2 = x := ⟨_,rfl⟩
 rw [hb1,hb2,hb3] at HW0 ⊢
 clear HZ HZ2
 generalize ((w.alloc (.cells (ndCells n) 46)).alloc (.cells (wdCells (fun _ => 0)) 154)).alloc (.cells (wdCells (fun _ => 0)) 154) = w0 at *
 have c0 : w0.cell? ⟨b1,0,none⟩ = some (.int .i64 n.lv) := by rw [HW0.out.n.cell,ndCells_0]
 by_cases hl : n.lv < 0 ∨ 15 < n.lv
 ·have HF := Lib.hid (show wordsF n = fun _ => 0 by unfold wordsF;rw [if_pos hl])
  have HLd := Lib.hid (wdLoad HW0.out.f)
  have HIw := Lib.hid (infoWd (fun _ => 0))
  rcases hl with hl | hl
  ·go_upto_region 3 with (fail)
   go_wp2_with (first | (with_reducible refine wpList_load_part (o := ⟨some 13,_,_,_,_,_⟩) rfl 154 _ rfl b3 0 rfl (wdCells (fun _ => 0)) _ HLd.out Tryz.underlying154 rfl HIw.out ?_) | (refine wpList_store_wd (o := ⟨none,.store 154 (.tmp 2) (.tmp 13),_,_,_,_⟩) rfl (.tmp 2) (.tmp 13) ?hoa b2 (fun _ => 0) (fun _ => 0) ?hxa ?hya HW0.out.r ?_;(case hoa => rfl);(case hxa => rfl);(case hya => rfl)))
   rw [HF.out]
   exact bodyPost_ret (results_wd rfl _ b2 (fun _ => 0) rfl (HW0.out.r.row _)) rfl ⟨rfl,below_setRow HW0.out.b (by have := HW0.out.lt;omega) _⟩
  ·have d1 : decide (n.lv < 0) = false := decide_eq_false (by omega)
   go_upto_region 3 with (fail)
   go_wp2_with (first | (with_reducible refine wpList_load_part (o := ⟨some 13,_,_,_,_,_⟩) rfl 154 _ rfl b3 0 rfl (wdCells (fun _ => 0)) _ HLd.out Tryz.underlying154 rfl HIw.out ?_) | (refine wpList_store_wd (o := ⟨none,.store 154 (.tmp 2) (.tmp 13),_,_,_,_⟩) rfl (.tmp 2) (.tmp 13) ?hob b2 (fun _ => 0) (fun _ => 0) ?hxb ?hyb HW0.out.r ?_;(case hob => rfl);(case hxb => rfl);(case hyb => rfl)))
   rw [HF.out]
   exact bodyPost_ret (results_wd rfl _ b2 (fun _ => 0) rfl (HW0.out.r.row _)) rfl ⟨rfl,below_setRow HW0.out.b (by have := HW0.out.lt;omega) _⟩
 ·have HF := Lib.hid (show wordsF n = wTo n 8 by unfold wordsF;rw [if_neg hl])
  have d1 : decide (n.lv < 0) = false := decide_eq_false (by omega)
  have d2 : decide (15 < n.lv) = false := decide_eq_false (by omega)
  have c1 : w0.cell? ⟨b1,1,none⟩ = some (.int .u64 n.lo) := by rw [HW0.out.n.cell,ndCells_1]
  have c2 : w0.cell? ⟨b1,2,none⟩ = some (.int .u64 n.nx) := by rw [HW0.out.n.cell,ndCells_2]
  have c3 : w0.cell? ⟨b1,3,none⟩ = some (.int .u64 n.ct) := by rw [HW0.out.n.cell,ndCells_3]
  have c4 : w0.cell? ⟨b1,4,none⟩ = some (.int .u64 n.fi) := by rw [HW0.out.n.cell,ndCells_4]
  have z0 : w0.cell? ⟨b3,0,none⟩ = some (.int .u64 0) := by rw [HW0.out.f.cell,wdCells_get _ 0 (by omega)]
  have z1 : w0.cell? ⟨b3,1,none⟩ = some (.int .u64 0) := by rw [HW0.out.f.cell,wdCells_get _ 1 (by omega)]
  have z2 : w0.cell? ⟨b3,2,none⟩ = some (.int .u64 0) := by rw [HW0.out.f.cell,wdCells_get _ 2 (by omega)]
  have z3 : w0.cell? ⟨b3,3,none⟩ = some (.int .u64 0) := by rw [HW0.out.f.cell,wdCells_get _ 3 (by omega)]
  have z4 : w0.cell? ⟨b3,4,none⟩ = some (.int .u64 0) := by rw [HW0.out.f.cell,wdCells_get _ 4 (by omega)]
  have f0 := HW0.out.f.frozen 0
  have f1 := HW0.out.f.frozen 1
  have f2 := HW0.out.f.frozen 2
  have f3 := HW0.out.f.frozen 3
  have f4 := HW0.out.f.frozen 4
  have hne : b1 ≠ b3 := by omega
  have hne' : b3 ≠ b1 := by omega
  have wv : IntKind.u64.wrap n.lv = n.lv := by rw [IntKind.wrap_u64];omega
  obtain ⟨tg,htg⟩ : ∃ t,tagM + n.lv = t := ⟨_,rfl⟩
  have wt : IntKind.u64.wrap (5495893775785918464 + n.lv) = tg := by rw [IntKind.wrap_u64,<- htg];unfold tagM;omega
  have wtt : IntKind.u64.wrap tg = tg := by rw [IntKind.wrap_u64,<- htg];unfold tagM;omega
  have wt2 : (5495893775785918464 : Int) + n.lv = tg := by rw [<- htg];rfl
  have HW1 := Lib.hid (show WrW w n b1 b2 b3 (wTo n 0) (((((w0.setCell ⟨b3,0,none⟩ (.int .u64 tg)).setCell ⟨b3,1,none⟩ (.int .u64 n.lo)).setCell ⟨b3,2,none⟩ (.int .u64 n.nx)).setCell ⟨b3,3,none⟩ (.int .u64 n.ct)).setCell ⟨b3,4,none⟩ (.int .u64 n.fi)) by
   have := ((((HW0.out.set 0 tg).set 1 n.lo).set 2 n.nx).set 3 n.ct).set 4 n.fi
   rw [<- htg,wset5] at this
   rw [<- htg];exact this)
  have HWT := Lib.hid wt
  clear hl htg
  go_wp2_with (fail)
  generalize ((((w0.setCell ⟨b3,0,none⟩ (.int .u64 tg)).setCell ⟨b3,1,none⟩ (.int .u64 n.lo)).setCell ⟨b3,2,none⟩ (.int .u64 n.nx)).setCell ⟨b3,3,none⟩ (.int .u64 n.ct)).setCell ⟨b3,4,none⟩ (.int .u64 n.fi) = w1 at *
  clear c0 c1 c2 c3 c4 z0 z1 z2 z3 z4 f0 f1 f2 f3 f4 wv wt wtt wt2 HW0
  go_loopw [4] (fun iv wr => ∃ k : Nat,k <= 8 /\ iv = .int .i64 k /\ Hid (WrW w n b1 b2 b3 (wTo n k) wr)) (fun iv _ => 8 - (intOf iv).toNat)
  case atStart => exact ⟨0,by omega,rfl,HW1⟩
  case round =>
   obtain ⟨k,hk,rfl,HW⟩ := hrel
   by_cases hlt : k < 8
   ·have ck : wr.cell? ⟨b1,5 + k,none⟩ = some (.int .u64 (n.k k)) := by rw [HW.out.n.cell,ndCells_k n k hlt]
    have cp : wr.cell? ⟨b1,13 + k,none⟩ = some (.int .u64 (n.p k)) := by rw [HW.out.n.cell,ndCells_p n k hlt]
    obtain ⟨e1,he1⟩ : ∃ e1,e1 = 8 + 2 * k := ⟨_,rfl⟩
    obtain ⟨e2,he2⟩ : ∃ e2,e2 = 9 + 2 * k := ⟨_,rfl⟩
    have z1 : wr.cell? ⟨b3,e1,none⟩ = some (.int .u64 (wTo n k e1)) := by rw [HW.out.f.cell,wdCells_get _ e1 (by omega)]
    have z2 : wr.cell? ⟨b3,e2,none⟩ = some (.int .u64 (wTo n k e2)) := by rw [HW.out.f.cell,wdCells_get _ e2 (by omega)]
    have f1 := HW.out.f.frozen e1
    have f2 := HW.out.f.frozen e2
    have h12 : e1 ≠ e2 := by omega
    have HWn := Lib.hid (show WrW w n b1 b2 b3 (wTo n (k + 1)) ((wr.setCell ⟨b3,e1,none⟩ (.int .u64 (n.k k))).setCell ⟨b3,e2,none⟩ (.int .u64 (n.p k))) by
     have := (HW.out.set e1 (n.k k)).set e2 (n.p k)
     rw [he1,he2,wset_next] at this
     rw [he1,he2];exact this)
    have g0 : (8 : Int) + 2 * (k : Int) = (e1 : Int) := by omega
    have g0' : (9 : Int) + 2 * (k : Int) = (e2 : Int) := by omega
    have g4 : (k : Int) < 8 := by omega
    have g5 : (e1 : Int) < 24 := by omega
    have g6 : (e2 : Int) < 24 := by omega
    clear he1 he2
    go_wp2_with (fail)
    go_roundw
    case rel => exact ⟨k + 1,by omega,by go_num,HWn⟩
    case measure => simp [intOf];omega
   ·have hk8 : k = 8 := by omega
    have HW2 := Lib.hid (show WrW w n b1 b2 b3 (wTo n 8) wr by have := HW.out;rwa [hk8] at this)
    have HLd := Lib.hid (wdLoad HW2.out.f)
    have HIw := Lib.hid (infoWd (wTo n 8))
    clear hk8 HW
    go_upto_region 14 with (fail)
    go_wp2_with (first | (with_reducible refine wpList_load_part (o := ⟨some 51,_,_,_,_,_⟩) rfl 154 _ rfl b3 0 rfl (wdCells (wTo n 8)) _ HLd.out Tryz.underlying154 rfl HIw.out ?_) | (refine wpList_store_wd (o := ⟨none,.store 154 (.tmp 2) (.tmp 51),_,_,_,_⟩) rfl (.tmp 2) (.tmp 51) ?hoc b2 (wTo n 8) (fun _ => 0) ?hxc ?hyc HW2.out.r ?_;(case hoc => rfl);(case hxc => rfl);(case hyc => rfl)))
    rw [HF.out]
    exact bodyPost_ret (results_wd rfl _ b2 (wTo n 8) rfl (HW2.out.r.row _)) rfl ⟨rfl,below_setRow HW2.out.b (by have := HW2.out.lt;omega) _⟩
theorem rwords_v (n : Nd) (hw : n.Wf) (w : World) :
  Calls Tryz.prog 74 #[.agg (ndCells n)] w fun e w' => e = .returned (.agg (wdCells (wordsF n))) /\ Below w.heap.size w w' := rwords_lv n hw.lv w
end Go.Proofs.YtodgfbjjjgohgaaGreat
namespace Go.Proofs.YtodgfbjjjgohgaaGreat
open Go.RowKit
attribute [local go_sem] Oper.semAt_some
set_option linter.unusedVariables false

theorem wf_u64K {a : Int} (h : (Lit.int .u64 a).wf = true) : 0 <= a /\ a <= 18446744073709551615 := by
 simp [Lit.wf,IntKind.min,IntKind.max,IntKind.signed,IntKind.bits] at h
 omega
theorem words_rng {n : Nd} (h : n.Wf) (i : Nat) : 0 <= wordsF n i /\ wordsF n i <= 18446744073709551615 := by
 unfold wordsF
 split
 ·exact ⟨Int.le_refl 0,(by decide : (0 : Int) <= 18446744073709551615)⟩
 ·rename_i hlv
  unfold wTo
  split
  ·unfold fullW tagM
   split
   ·omega
   split
   ·exact wf_u64K h.lo
   split
   ·exact wf_u64K h.nx
   split
   ·exact wf_u64K h.ct
   split
   ·exact wf_u64K h.fi
   split
   ·exact ⟨by decide,by decide⟩
   split
   ·exact wf_u64K (h.k _ (by omega))
   ·exact wf_u64K (h.p _ (by omega))
  ·exact ⟨by decide,by decide⟩
set_option maxRecDepth 100000 in
set_option maxHeartbeats 8000000 in
theorem alay_v (w : World) (ab gb cb : Nat) (d : AD) (v : Value) (a : Nat) (n : Nd) (h : ArW w ab gb cb d v) (hn : n.Wf) (ha : a + 192 <= d.L.length) (hl : d.L.length <= 1000000) :
  Calls Tryz.prog 59 #[.pointer (some ⟨ab,0,none⟩),.int .u64 (a : Int),.agg (ndCells n)] w fun e w' => e = .returned (.tuple #[]) /\ ArW w' ab gb cb (layA d a n) v /\ Keeps (fun i => i = gb) w w' := by
 have HA := Lib.hid h
 have HN := Lib.hid hn
 have HRw := Lib.hid (fun W => rwords_v n hn W)
 have hb0 : Blk (w.alloc (.cells (ndCells n) 46)) w.heap.size (ndCells n) 46 := Blk.new w _ _
 have HB0 := Lib.hid hb0
 have hB0 : Below w.heap.size w (w.alloc (.cells (ndCells n) 46)) := (Below.refl _ w).alloc (Nat.le_refl _) _
 have HK0 := Lib.hid hB0
 have HL0 := Lib.hid (ndLoad hb0)
 obtain ⟨nb,hnb⟩ : ∃ nb,w.heap.size = nb := ⟨_,rfl⟩
 have Hnb := Lib.hid hnb
 rw [hnb] at HB0 HL0
 clear h hn hb0 hB0
 go_enter Tryz.func59,Tryz.ntmps59
 clear hnb
 go_upto_region 1 with (fail)
 rw [Hnb.out]
 obtain ⟨w0,hw0⟩ : ∃ w0,w.alloc (.cells (ndCells n) 46) = w0 := ⟨_,rfl⟩
 rw [hw0] at HB0 HK0 HL0 ⊢
 clear hw0
 go_wp2_with ((with_reducible refine wpList_load_part (o := ⟨some 8,.load 46 (.tmp 5),_,_,_,_⟩) ?hg 46 (.tmp 5) ?ho nb 0 ?hx (ndCells n) ?dd ?hc ?hu ?hd ?hi ?_);(case hg => rfl);(case ho => rfl);(case hx => rfl);(case hc => exact HL0.out);(case hu => exact Tryz.underlying46);(case hd => rfl);(case hi => exact info27 n))
 refine (HRw.out w0).mono ?_
 rintro e w1 ⟨rfl,hB1⟩
 have hz := Blk.new w1 (wdCells (fun _ => 0)) 154
 have hzr := hz.row (wdCells (wordsF n))
 have k2 : Below w0.heap.size w0 ((w1.alloc (.cells (wdCells (fun _ => 0)) 154)).setRow w1.heap.size (wdCells (wordsF n))) := below_setRow (hB1.alloc hB1.size _) hB1.size _
 obtain ⟨xb,hxb⟩ : ∃ xb,w1.heap.size = xb := ⟨_,rfl⟩
 have hx0 : w0.heap.size <= xb := by rw [<- hxb];exact hB1.size
 rw [hxb] at hz hzr k2
 have HXb := Lib.hid hxb
 have HZb := Lib.hid hz
 obtain ⟨w2,hw2⟩ : ∃ w2,(w1.alloc (.cells (wdCells (fun _ => 0)) 154)).setRow xb (wdCells (wordsF n)) = w2 := ⟨_,rfl⟩
 have HW2 := Lib.hid hw2
 rw [hw2] at hzr k2
 have HX2 := Lib.hid hzr
 have hk2 := HK0.out.trans (k2.mono HK0.out.size)
 have HK2 := Lib.hid hk2
 have HA2 := Lib.hid (HA.out.below hk2)
 have HNe := Lib.hid (show xb ≠ gb /\ w.heap.size <= xb from ⟨fun e => by have := HA.out.b.lt;have := HK0.out.size;omega,by have := HK0.out.size;omega⟩)
 clear hz hzr hxb hw2 k2 hB1 hk2 hx0 HRw
 go_upto_region 2 with (first
  | ((with_reducible refine wpList_alloc_wdAt (o := ⟨some 6,_,_,_,_,_⟩) ?ha ?hb xb ?hz ?_);(case ha => rfl);(case hb => rfl);(case hz => exact HXb.out))
  | ((with_reducible refine wpList_store_wd (o := ⟨none,.store 154 (.tmp 6) (.tmp 9),_,_,_,_⟩) ?hgd (.tmp 6) (.tmp 9) ?hod xb (wordsF n) (fun _ => 0) ?hxd ?hyd ?hbd ?_);(case hgd => rfl);(case hod => rfl);(case hxd => exact ev_tmp (by simp [Act.put]));(case hyd => exact ev_tmp (by simp [Act.put]));(case hbd => exact HZb.out);rw [HW2.out];simp [Act.put]))
 go_wp2_with (fail)
 go_loopw [7] (fun iv wr => ∃ k : Nat,k <= 24 /\ iv = .int .i64 k /\ Hid (ArW wr ab gb cb { d with L := layTo d.L a n k } v) /\ Hid (Blk wr xb (wdCells (wordsF n)) 154) /\ Hid (Keeps (fun i => i = gb) w wr)) (fun iv _ => 24 - (intOf iv).toNat)
 case atStart => exact ⟨0,by omega,rfl,HA2,HX2,Lib.hid ((Keeps.of_below' HK2.out).mono (fun _ _ h => h.elim))⟩
 case round =>
  obtain ⟨k,hk,rfl,HAk,HXk,HKk⟩ := hrel
  by_cases hlt : k < 24
  ·have b1 : (k : Int) < 24 := by omega
   have hrn := words_rng HN.out k
   obtain ⟨x,hx⟩ : ∃ x,wordsF n k = x := ⟨_,rfl⟩
   have cx : wr.cell? ⟨xb,k,none⟩ = some (.int .u64 x) := by rw [HXk.out.cell,wdCells_get _ _ hlt,hx]
   have hLl := layTo_len (L := d.L) (a := a) n k (by omega)
   have hp := bput_v wr ab gb cb _ (layTo d.L a n k) (a + 8 * k) x HAk.out (by rw [hLl];omega) (by rw [hLl];omega) (by rw [<- hx];exact hrn.1) (by rw [<- hx];exact hrn.2)
   rw [show ((a + 8 * k : Nat) : Int) = (a : Int) + 8 * (k : Int) by omega] at hp
   have HP := Lib.hid hp
   have HLn := Lib.hid (putAt_len (L := layTo d.L a n k) (a := a + 8 * k) x (by rw [hLl];omega))
   have Hx := Lib.hid hx
   have HLt := Lib.hid hlt
   have ha2 : (a : Int) <= 1000000 := by omega
   clear hrn hx hLl hp
   go_wp2_with (fail)
   refine HP.out.mono ?_
   rintro e w4 ⟨rfl,hA4,hK4⟩
   have HA4 := Lib.hid (show ArW w4 ab gb cb { d with L := layTo d.L a n (k + 1) } v from by
    rw [layTo,Hx.out];unfold ArW arC;simp only [];rw [HLn.out];exact hA4)
   have HX4 := Lib.hid (HXk.out.kept hK4 HNe.out.1)
   have HK4 := Lib.hid (HKk.out.trans hK4)
   clear hA4 hK4 HP
   go_wp2_with (fail)
   go_roundw
   case rel => exact ⟨k + 1,HLt.out,by go_num,HA4,HX4,HK4⟩
   case measure => have := HLt.out;simp [intOf];omega
  ·obtain rfl : k = 24 := by omega
   have HE := Lib.hid (show ArW wr ab gb cb (layA d a n) v from HAk.out)
   go_wp2_with (fail)
   go_end0
   exact ⟨rfl,HE.out,HKk.out⟩
end Go.Proofs.YtodgfbjjjgohgaaGreat
