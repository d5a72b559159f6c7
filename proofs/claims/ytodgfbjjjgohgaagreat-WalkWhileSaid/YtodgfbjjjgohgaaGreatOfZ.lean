/-
 node.Of: a contract.
-/
import Derived.Test.YtodgfbjjjgohgaaGreatKeZ
namespace Go.Proofs.YtodgfbjjjgohgaaGreat
open Go.RowKit

def nTo (f : Nat -> Int) (k : Nat) : Nd := { lv := f 0 - tagM,lo := f 1,nx := f 2,ct := f 3,fi := f 4,k := fun i => if i < k then f (8 + 2 * i) else 0,p := fun i => if i < k then f (9 + 2 * i) else 0 }
def ofBad (f : Nat -> Int) : Bool := decide (f 0 < tagM) || decide (tagM + 15 < f 0)
def ofV (f : Nat -> Int) : Nd × Int := if ofBad f = true then (nd0,11) else (nTo f 8,0)
def ndC (f : Nat -> Int) (L : Nat -> Bool) : Nd :=
 { lv := if L 13 = true then f 0 - tagM else 0,lo := if L 15 = true then f 1 else 0,nx := if L 17 = true then f 2 else 0,ct := if L 19 = true then f 3 else 0,fi := if L 21 = true then f 4 else 0,k := fun _ => 0,p := fun _ => 0 }
theorem ndC_set0 {f : Nat -> Int} {L : Nat -> Bool} : (ndCells (ndC f L)).setIfInBounds 0 (.int .i64 (f 0 - tagM)) = ndCells (ndC f (lset L 13)) := by
 simp [ndCells,ndC,lset]
theorem ndC_set1 {f : Nat -> Int} {L : Nat -> Bool} : (ndCells (ndC f L)).setIfInBounds 1 (.int .u64 (f 1)) = ndCells (ndC f (lset L 15)) := by
 simp [ndCells,ndC,lset]
theorem ndC_set2 {f : Nat -> Int} {L : Nat -> Bool} : (ndCells (ndC f L)).setIfInBounds 2 (.int .u64 (f 2)) = ndCells (ndC f (lset L 17)) := by
 simp [ndCells,ndC,lset]
theorem ndC_set3 {f : Nat -> Int} {L : Nat -> Bool} : (ndCells (ndC f L)).setIfInBounds 3 (.int .u64 (f 3)) = ndCells (ndC f (lset L 19)) := by
 simp [ndCells,ndC,lset]
theorem ndC_set4 {f : Nat -> Int} {L : Nat -> Bool} : (ndCells (ndC f L)).setIfInBounds 4 (.int .u64 (f 4)) = ndCells (ndC f (lset L 21)) := by
 simp [ndCells,ndC,lset]
theorem ndC_all (f : Nat -> Int) (L : Nat -> Bool) (h0 : L 13 = true) (h1 : L 15 = true) (h2 : L 17 = true) (h3 : L 19 = true) (h4 : L 21 = true) : ndC f L = nTo f 0 := by
 unfold ndC nTo
 rw [h0,h1,h2,h3,h4]
 simp
def ndKL (f : Nat -> Int) (k : Nat) (L : Nat -> Bool) : Nd := { nTo f k with k := fun i => if i = k /\ L 14 = true then f (8 + 2 * k) else (nTo f k).k i,p := fun i => if i = k /\ L 17 = true then f (9 + 2 * k) else (nTo f k).p i }
theorem ndKL_set14 (f : Nat -> Int) (k : Nat) (L : Nat -> Bool) {e1 : Nat} (he : e1 = 8 + 2 * k) : (ndKL f k L).withK k (f e1) = ndKL f k (lset L 14) := by
 subst he
 unfold ndKL Nd.withK
 have h17 : lset L 14 17 = L 17 := by simp [lset]
 have h14 : lset L 14 14 = true := by simp [lset]
 rw [h17,h14]
 congr 1
 funext j
 by_cases h : j = k
 ·simp [h]
 ·simp [h]
theorem ndKL_set17 (f : Nat -> Int) (k : Nat) (L : Nat -> Bool) {e2 : Nat} (he : e2 = 9 + 2 * k) : (ndKL f k L).withP k (f e2) = ndKL f k (lset L 17) := by
 subst he
 unfold ndKL Nd.withP
 have h17 : lset L 17 17 = true := by simp [lset]
 have h14 : lset L 17 14 = L 14 := by simp [lset]
 rw [h17,h14]
 congr 1
 funext j
 by_cases h : j = k
 ·simp [h]
 ·simp [h]
theorem ndKL_all (f : Nat -> Int) (k : Nat) (L : Nat -> Bool) (h1 : L 14 = true) (h2 : L 17 = true) : ndKL f k L = nTo f (k + 1) := by
 have ek : (fun i => if i = k /\ L 14 = true then f (8 + 2 * k) else (nTo f k).k i) = (nTo f (k + 1)).k := by
  funext j
  rw [h1]
  by_cases h : j = k
  ·simp [h,nTo]
  ·by_cases h3 : j < k
   ·simp [h,h3,nTo,show j < k + 1 by omega]
   ·simp [h,h3,nTo,show ¬ j < k + 1 by omega]
 have ep : (fun i => if i = k /\ L 17 = true then f (9 + 2 * k) else (nTo f k).p i) = (nTo f (k + 1)).p := by
  funext j
  rw [h2]
  by_cases h : j = k
  ·simp [h,nTo]
  ·by_cases h3 : j < k
   ·simp [h,h3,nTo,show j < k + 1 by omega]
   ·simp [h,h3,nTo,show ¬ j < k + 1 by omega]
 unfold ndKL
 rw [ek,ep]
 rfl
structure OfW (w : World) (f : Nat -> Int) (b1 b2 : Nat) (m : Nd) (w' : World) : Prop where
 f : Blk w' b1 (wdCells f) 154
 m : Blk w' b2 (ndCells m) 46
 b : Below w.heap.size w w'
 lt : w.heap.size <= b1 /\ b1 < b2
theorem OfW.next {w wr W : World} {f : Nat -> Int} {b1 b2 : Nat} {m m' : Nd} (h : OfW w f b1 b2 m wr) (hk : Keeps (fun i => i = b2) wr W) (hb : Blk W b2 (ndCells m') 46) : OfW w f b1 b2 m' W :=
 ⟨h.f.kept hk (by have := h.lt;omega),hb,⟨hk.os.trans h.b.os,hk.tape.trans h.b.tape,hk.output.trans h.b.output,Nat.le_trans h.b.size hk.size,fun i hi => (hk.block i (Nat.lt_of_lt_of_le hi h.b.size) (by have := h.lt;omega)).trans (h.b.block i hi)⟩,h.lt⟩

set_option maxRecDepth 100000 in
set_option maxHeartbeats 6400000 in
theorem of_v (f : Nat -> Int) (hf0 : 0 <= f 0 /\ f 0 <= 18446744073709551615) (w : World) :
  Calls Tryz.prog 98 #[.agg (wdCells f)] w fun e w' => MkP (ofV f).1 (ofV f).2 w e w' := by
 have hk0 : Blk (w.alloc (.cells (wdCells f) 154)) w.heap.size (wdCells f) 154 := Blk.new w _ _
 have hs1 : (w.alloc (.cells (wdCells f) 154)).heap.size = w.heap.size + 1 := by simp
 have hb2 := Blk.new (w.alloc (.cells (wdCells f) 154)) (ndCells nd0) 46
 rw [hs1] at hb2
 have HZ := Lib.hid hs1
 have HW0 := Lib.hid (show OfW w f w.heap.size (w.heap.size + 1) nd0 ((w.alloc (.cells (wdCells f) 154)).alloc (.cells (ndCells nd0) 46)) from
  ⟨hk0.alloc _,hb2,((Below.refl w.heap.size w).alloc (Nat.le_refl _) _).alloc (by omega) _,by omega⟩)
 have HF0 := Lib.hid hf0
 clear hk0 hs1 hb2 hf0
 go_enter Tryz.func98,Tryz.ntmps98
 go_upto_region 1 with (with_reducible refine wpList_alloc_ndAt (o := ⟨some 2,_,_,_,_,_⟩) rfl rfl (w.heap.size + 1) ?hz ?_;(case hz => exact HZ.out))
 go_simp
 obtain ⟨b1,hb1⟩ : ∃ x,w.heap.size = x := ⟨_,rfl⟩
 obtain ⟨b2,hb2⟩ : ∃ x,b1 + 1 = x := ⟨_,rfl⟩
 rw [hb1,hb2] at HW0 ⊢
 clear HZ
 generalize (w.alloc (.cells (wdCells f) 154)).alloc (.cells (ndCells nd0) 46) = w0 at *
 have HCW := Lib.hid (fun i (hi : i < 24) => show w0.cell? ⟨b1,i,none⟩ = some (.int .u64 (f i)) by rw [HW0.out.f.cell,wdCells_get _ i hi])
 have c0 := HCW.out 0 (by omega)
 have HLd := Lib.hid (ndLoad HW0.out.m)
 have HIw := Lib.hid (info27 nd0)
 cases d1 : decide (f 0 < 5495893775785918464)
 case true =>
  have HF := Lib.hid (show ofV f = (nd0,11) by unfold ofV ofBad tagM;rw [d1];rfl)
  go_upto_region 2 with (fail)
  go_wp2_with (first | (with_reducible refine wpList_load_part (o := ⟨some 13,_,_,_,_,_⟩) rfl 46 _ rfl b2 0 rfl (ndCells nd0) _ HLd.out Tryz.underlying46 rfl HIw.out ?_) | (refine wpList_store_nd (o := ⟨none,.store 46 (.tmp 2) (.tmp 13),_,_,_,_⟩) rfl (.tmp 2) (.tmp 13) ?hoa b2 nd0 nd0 ?hxa ?hya HW0.out.m ?_;(case hoa => rfl);(case hxa => rfl);(case hya => rfl)))
  rw [HF.out]
  exact bodyPost_ret (results_nd rfl _ b2 nd0 rfl (HW0.out.m.row _)) rfl ⟨rfl,below_setRow HW0.out.b (by have := HW0.out.lt;omega) _⟩
 case false =>
 cases d2 : decide (5495893775785918479 < f 0)
 case true =>
  have HF := Lib.hid (show ofV f = (nd0,11) by unfold ofV ofBad tagM;rw [d1,show ((5495893775785918464 : Int) + 15) = 5495893775785918479 from rfl,d2];rfl)
  go_upto_region 2 with (fail)
  go_wp2_with (first | (with_reducible refine wpList_load_part (o := ⟨some 13,_,_,_,_,_⟩) rfl 46 _ rfl b2 0 rfl (ndCells nd0) _ HLd.out Tryz.underlying46 rfl HIw.out ?_) | (refine wpList_store_nd (o := ⟨none,.store 46 (.tmp 2) (.tmp 13),_,_,_,_⟩) rfl (.tmp 2) (.tmp 13) ?hob b2 nd0 nd0 ?hxb ?hyb HW0.out.m ?_;(case hob => rfl);(case hxb => rfl);(case hyb => rfl)))
  rw [HF.out]
  exact bodyPost_ret (results_nd rfl _ b2 nd0 rfl (HW0.out.m.row _)) rfl ⟨rfl,below_setRow HW0.out.b (by have := HW0.out.lt;omega) _⟩
 case false =>
  have HF := Lib.hid (show ofV f = (nTo f 8,0) by unfold ofV ofBad tagM;rw [d1,show ((5495893775785918464 : Int) + 15) = 5495893775785918479 from rfl,d2];rfl)
  have HS := Lib.hid HW0.out.f.lt
  have HNE := Lib.hid (show ¬ b1 = b2 by omega)
  have hr : 5495893775785918464 <= f 0 /\ f 0 <= 5495893775785918479 := by simp at d1 d2;omega
  have WTG := Lib.hid (show IntKind.u64.wrap (f 0 - 5495893775785918464) = f 0 - tagM by rw [IntKind.wrap_u64];unfold tagM;omega)
  have WLV := Lib.hid (show IntKind.i64.wrap (f 0 - tagM) = f 0 - tagM by rw [IntWalk.i64_in _ (by unfold tagM;omega)])
  have HC00 := Lib.hid (show Blk w0 b2 (ndCells (ndC f (fun _ => false))) 46 by
   have : ndC f (fun _ => false) = nd0 := by unfold ndC nd0;simp
   rw [this];exact HW0.out.m)
  clear hr HLd
  go_wp2_with (fail)
  refine wp_region_vals [Is (.pointer (some ⟨b1,0,none⟩)),Is (.int .u64 (f 0)),Is (.int .u64 (f 0 - tagM)),Is (.int .i64 (f 0 - tagM)),Is (.pointer (some ⟨b1,1,none⟩)),Is (.int .u64 (f 1)),Is (.pointer (some ⟨b1,2,none⟩)),Is (.int .u64 (f 2)),Is (.pointer (some ⟨b1,3,none⟩)),Is (.int .u64 (f 3)),Is (.pointer (some ⟨b1,4,none⟩)),Is (.int .u64 (f 4)),Is (.pointer (some ⟨b2,0,none⟩)),Any,Is (.pointer (some ⟨b2,1,none⟩)),Any,Is (.pointer (some ⟨b2,2,none⟩)),Any,Is (.pointer (some ⟨b2,3,none⟩)),Any,Is (.pointer (some ⟨b2,4,none⟩)),Any]
   (fun _ => Keeps (fun i => i = b2)) (fun L W => Keeps (fun i => i = b2) w0 W /\ Blk W b2 (ndCells (ndC f L)) 46) (by kernel_rfl) (by kernel_rfl) (by kernel_rfl) ?hst ?h0 ⟨?o0,?o1,?o2,?o3,?o4,?o5,?o6,?o7,?o8,?o9,?o10,?o11,?o12,?o13,?o14,?o15,?o16,?o17,?o18,?o19,?o20,?o21,trivial⟩ ?he
  any_goals (intro L vs A W H hf hd K hK)
  case hst => repeat' (first | exact trivial | refine ⟨fun _ _ _ _ _ _ h _ => h,?_⟩)
  case h0 =>
   exact ⟨(Keeps.refl _ _).drew,HC00.out⟩
  case o0 => have e1 : A.tmps[1]?.getD undef = .pointer (some ⟨b1,0,none⟩) := H.old 1 (by kernel_rfl);go_simp;exact hK _ _ (Keeps.refl _ _) rfl (H.glob)
  case o1 => have e14 := H.iz hd 0 14 rfl rfl rfl (by kernel_rfl);have c := (H.glob.1.cell (p := ⟨b1,0,none⟩) HS.out HNE.out).trans (HCW.out 0 (by omega));go_simp;exact hK _ _ (Keeps.refl _ _) rfl (H.glob)
  case o2 => have e15 := H.iz hd 1 15 rfl rfl rfl (by kernel_rfl);have wv := WTG.out;go_simp;exact hK _ _ (Keeps.refl _ _) rfl H.glob
  case o3 => have e16 := H.iz hd 2 16 rfl rfl rfl (by kernel_rfl);have wv := WLV.out;go_simp;exact hK _ _ (Keeps.refl _ _) rfl (H.glob)
  case o4 => have e1 : A.tmps[1]?.getD undef = .pointer (some ⟨b1,0,none⟩) := H.old 1 (by kernel_rfl);go_simp;exact hK _ _ (Keeps.refl _ _) rfl (H.glob)
  case o5 => have e18 := H.iz hd 4 18 rfl rfl rfl (by kernel_rfl);have c := (H.glob.1.cell (p := ⟨b1,1,none⟩) HS.out HNE.out).trans (HCW.out 1 (by omega));go_simp;exact hK _ _ (Keeps.refl _ _) rfl (H.glob)
  case o6 => have e1 : A.tmps[1]?.getD undef = .pointer (some ⟨b1,0,none⟩) := H.old 1 (by kernel_rfl);go_simp;exact hK _ _ (Keeps.refl _ _) rfl (H.glob)
  case o7 => have e20 := H.iz hd 6 20 rfl rfl rfl (by kernel_rfl);have c := (H.glob.1.cell (p := ⟨b1,2,none⟩) HS.out HNE.out).trans (HCW.out 2 (by omega));go_simp;exact hK _ _ (Keeps.refl _ _) rfl (H.glob)
  case o8 => have e1 : A.tmps[1]?.getD undef = .pointer (some ⟨b1,0,none⟩) := H.old 1 (by kernel_rfl);go_simp;exact hK _ _ (Keeps.refl _ _) rfl (H.glob)
  case o9 => have e22 := H.iz hd 8 22 rfl rfl rfl (by kernel_rfl);have c := (H.glob.1.cell (p := ⟨b1,3,none⟩) HS.out HNE.out).trans (HCW.out 3 (by omega));go_simp;exact hK _ _ (Keeps.refl _ _) rfl (H.glob)
  case o10 => have e1 : A.tmps[1]?.getD undef = .pointer (some ⟨b1,0,none⟩) := H.old 1 (by kernel_rfl);go_simp;exact hK _ _ (Keeps.refl _ _) rfl (H.glob)
  case o11 => have e24 := H.iz hd 10 24 rfl rfl rfl (by kernel_rfl);have c := (H.glob.1.cell (p := ⟨b1,4,none⟩) HS.out HNE.out).trans (HCW.out 4 (by omega));go_simp;exact hK _ _ (Keeps.refl _ _) rfl (H.glob)
  case o12 => have e2 : A.tmps[2]?.getD undef = .pointer (some ⟨b2,0,none⟩) := H.old 2 (by kernel_rfl);go_simp;exact hK _ _ (Keeps.refl _ _) rfl (H.glob)
  case o13 => have e26 := H.iz hd 12 26 rfl rfl rfl (by kernel_rfl);have e17 := H.iz hd 3 17 rfl rfl rfl (by kernel_rfl);have fz := H.glob.2.frozen 0;have c := H.glob.2.cell 0;rw [ndCells_0] at c;go_simp;exact hK undef _ ((Keeps.refl (fun i => i = b2) _).setCell (p := ⟨b2,0,none⟩) (.inl rfl) _) trivial ⟨H.glob.1.setCell (p := ⟨b2,0,none⟩) (.inl rfl) _,by have := H.glob.2.set 0 (.int .i64 (f 0 - tagM));rw [ndC_set0] at this;exact this⟩
  case o14 => have e2 : A.tmps[2]?.getD undef = .pointer (some ⟨b2,0,none⟩) := H.old 2 (by kernel_rfl);go_simp;exact hK _ _ (Keeps.refl _ _) rfl (H.glob)
  case o15 => have e27 := H.iz hd 14 27 rfl rfl rfl (by kernel_rfl);have e19 := H.iz hd 5 19 rfl rfl rfl (by kernel_rfl);have fz := H.glob.2.frozen 1;have c := H.glob.2.cell 1;rw [ndCells_1] at c;go_simp;exact hK undef _ ((Keeps.refl (fun i => i = b2) _).setCell (p := ⟨b2,1,none⟩) (.inl rfl) _) trivial ⟨H.glob.1.setCell (p := ⟨b2,1,none⟩) (.inl rfl) _,by have := H.glob.2.set 1 (.int .u64 (f 1));rw [ndC_set1] at this;exact this⟩
  case o16 => have e2 : A.tmps[2]?.getD undef = .pointer (some ⟨b2,0,none⟩) := H.old 2 (by kernel_rfl);go_simp;exact hK _ _ (Keeps.refl _ _) rfl (H.glob)
  case o17 => have e28 := H.iz hd 16 28 rfl rfl rfl (by kernel_rfl);have e21 := H.iz hd 7 21 rfl rfl rfl (by kernel_rfl);have fz := H.glob.2.frozen 2;have c := H.glob.2.cell 2;rw [ndCells_2] at c;go_simp;exact hK undef _ ((Keeps.refl (fun i => i = b2) _).setCell (p := ⟨b2,2,none⟩) (.inl rfl) _) trivial ⟨H.glob.1.setCell (p := ⟨b2,2,none⟩) (.inl rfl) _,by have := H.glob.2.set 2 (.int .u64 (f 2));rw [ndC_set2] at this;exact this⟩
  case o18 => have e2 : A.tmps[2]?.getD undef = .pointer (some ⟨b2,0,none⟩) := H.old 2 (by kernel_rfl);go_simp;exact hK _ _ (Keeps.refl _ _) rfl (H.glob)
  case o19 => have e29 := H.iz hd 18 29 rfl rfl rfl (by kernel_rfl);have e23 := H.iz hd 9 23 rfl rfl rfl (by kernel_rfl);have fz := H.glob.2.frozen 3;have c := H.glob.2.cell 3;rw [ndCells_3] at c;go_simp;exact hK undef _ ((Keeps.refl (fun i => i = b2) _).setCell (p := ⟨b2,3,none⟩) (.inl rfl) _) trivial ⟨H.glob.1.setCell (p := ⟨b2,3,none⟩) (.inl rfl) _,by have := H.glob.2.set 3 (.int .u64 (f 3));rw [ndC_set3] at this;exact this⟩
  case o20 => have e2 : A.tmps[2]?.getD undef = .pointer (some ⟨b2,0,none⟩) := H.old 2 (by kernel_rfl);go_simp;exact hK _ _ (Keeps.refl _ _) rfl (H.glob)
  case o21 => have e30 := H.iz hd 20 30 rfl rfl rfl (by kernel_rfl);have e25 := H.iz hd 11 25 rfl rfl rfl (by kernel_rfl);have fz := H.glob.2.frozen 4;have c := H.glob.2.cell 4;rw [ndCells_4] at c;go_simp;exact hK undef _ ((Keeps.refl (fun i => i = b2) _).setCell (p := ⟨b2,4,none⟩) (.inl rfl) _) trivial ⟨H.glob.1.setCell (p := ⟨b2,4,none⟩) (.inl rfl) _,by have := H.glob.2.set 4 (.int .u64 (f 4));rw [ndC_set4] at this;exact this⟩
  case he =>
   intro vs W hlen hv
   match vs,hlen,hv with
   | [x0_,x1_,x2_,x3_,x4_,x5_,x6_,x7_,x8_,x9_,x10_,x11_,x12_,x13_,x14_,x15_,x16_,x17_,x18_,x19_,x20_,x21_],_,hv =>
   obtain rfl := isv hv 0 rfl rfl;obtain rfl := isv hv 1 rfl rfl;obtain rfl := isv hv 2 rfl rfl;obtain rfl := isv hv 3 rfl rfl;obtain rfl := isv hv 4 rfl rfl;obtain rfl := isv hv 5 rfl rfl;obtain rfl := isv hv 6 rfl rfl;obtain rfl := isv hv 7 rfl rfl;obtain rfl := isv hv 8 rfl rfl;obtain rfl := isv hv 9 rfl rfl;obtain rfl := isv hv 10 rfl rfl;obtain rfl := isv hv 11 rfl rfl;obtain rfl := isv hv 12 rfl rfl;obtain rfl := isv hv 14 rfl rfl;obtain rfl := isv hv 16 rfl rfl;obtain rfl := isv hv 18 rfl rfl;obtain rfl := isv hv 20 rfl rfl
   intro L hall hG
   clear hv hlen
   have HW1 := Lib.hid (show OfW w f b1 b2 (nTo f 0) W from HW0.out.next hG.1 (by have := hG.2;rw [ndC_all f L (hall 13 (by decide)) (hall 15 (by decide)) (hall 17 (by decide)) (hall 19 (by decide)) (hall 21 (by decide))] at this;exact this))
   clear hG hall
   simp only [fill,if_true]
   go_simp
   clear HS HC00 WLV WTG HW0 c0
   go_wp2_with (fail)
   go_loopw [31] (fun iv wr => ∃ k : Nat,k <= 8 /\ iv = .int .i64 k /\ Hid (OfW w f b1 b2 (nTo f k) wr)) (fun iv _ => 8 - (intOf iv).toNat)
   case atStart => exact ⟨0,by omega,rfl,HW1⟩
   case round =>
    obtain ⟨k,hk,rfl,HW⟩ := hrel
    by_cases hlt : k < 8
    ·have HCW := Lib.hid (fun i (hi : i < 24) => show wr.cell? ⟨b1,i,none⟩ = some (.int .u64 (f i)) by rw [HW.out.f.cell,wdCells_get _ i hi])
     have HS := Lib.hid HW.out.f.lt
     have HC00 := Lib.hid (show Blk wr b2 (ndCells (ndKL f k (fun _ => false))) 46 by
      have : ndKL f k (fun _ => false) = nTo f k := by unfold ndKL;simp
      rw [this];exact HW.out.m)
     obtain ⟨e1,he1⟩ : ∃ e1,e1 = 8 + 2 * k := ⟨_,rfl⟩
     obtain ⟨e2,he2⟩ : ∃ e2,e2 = 9 + 2 * k := ⟨_,rfl⟩
     have HE1 := Lib.hid he1
     have HE2 := Lib.hid he2
     have g1 : IntKind.i64.wrap (2 * (k : Int)) = 2 * (k : Int) := IntWalk.i64_in _ (by omega)
     have g2 : IntKind.i64.wrap (8 + 2 * (k : Int)) = (e1 : Int) := by rw [IntWalk.i64_in _ (by omega)];omega
     have g3 : IntKind.i64.wrap (9 + 2 * (k : Int)) = (e2 : Int) := by rw [IntWalk.i64_in _ (by omega)];omega
     have g4 : (k : Int) < 8 := by omega
     have g5 : (e1 : Int) < 24 := by omega
     have g6 : (e2 : Int) < 24 := by omega
     have g7 : e1 < 24 := by omega
     have g8 : e2 < 24 := by omega
     clear he1 he2
     go_wp2_with (fail)
     refine wp_region_vals [Is (.int .i64 (k : Nat)),Is (.int .i64 (k : Nat)),Is (.int .i64 (k : Nat)),Is (.int .i64 (2 * (k : Int))),Is (.int .i64 (e1 : Nat)),Is (.pointer (some ⟨b1,e1,none⟩)),Is (.int .u64 (f e1)),Is (.int .i64 (k : Nat)),Is (.int .i64 (2 * (k : Int))),Is (.int .i64 (e2 : Nat)),Is (.pointer (some ⟨b1,e2,none⟩)),Is (.int .u64 (f e2)),Is (.pointer (some ⟨b2,5,none⟩)),Is (.pointer (some ⟨b2,5 + k,none⟩)),Any,Is (.pointer (some ⟨b2,13,none⟩)),Is (.pointer (some ⟨b2,13 + k,none⟩)),Any]
      (fun _ => Keeps (fun i => i = b2)) (fun L W => Keeps (fun i => i = b2) wr W /\ Blk W b2 (ndCells (ndKL f k L)) 46) (by kernel_rfl) (by kernel_rfl) (by kernel_rfl) ?hst ?h0 ⟨?o0,?o1,?o2,?o3,?o4,?o5,?o6,?o7,?o8,?o9,?o10,?o11,?o12,?o13,?o14,?o15,?o16,?o17,trivial⟩ ?he
     any_goals (intro L vs A W H hf hd K hK)
     case hst => repeat' (first | exact trivial | refine ⟨fun _ _ _ _ _ _ h _ => h,?_⟩)
     case h0 =>
      exact ⟨(Keeps.refl _ _).drew,HC00.out⟩
     case o0 => have e4 : A.tmps[4]?.getD undef = .int .i64 (k : Nat) := H.old 4 (by kernel_rfl);go_simp;exact hK _ _ (Keeps.refl _ _) rfl (H.glob)
     case o1 => have e4 : A.tmps[4]?.getD undef = .int .i64 (k : Nat) := H.old 4 (by kernel_rfl);go_simp;exact hK _ _ (Keeps.refl _ _) rfl (H.glob)
     case o2 => have e4 : A.tmps[4]?.getD undef = .int .i64 (k : Nat) := H.old 4 (by kernel_rfl);go_simp;exact hK _ _ (Keeps.refl _ _) rfl (H.glob)
     case o3 => have e36 := H.iz hd 2 36 rfl rfl rfl (by kernel_rfl);go_simp;exact hK _ _ (Keeps.refl _ _) rfl (H.glob)
     case o4 => have e37 := H.iz hd 3 37 rfl rfl rfl (by kernel_rfl);go_simp;exact hK _ _ (Keeps.refl _ _) rfl (H.glob)
     case o5 => have e1 : A.tmps[1]?.getD undef = .pointer (some ⟨b1,0,none⟩) := H.old 1 (by kernel_rfl);have e38 := H.iz hd 4 38 rfl rfl rfl (by kernel_rfl);go_simp;exact hK _ _ (Keeps.refl _ _) rfl (H.glob)
     case o6 => have e39 := H.iz hd 5 39 rfl rfl rfl (by kernel_rfl);have c := (H.glob.1.cell (p := ⟨b1,e1,none⟩) HS.out HNE.out).trans (HCW.out e1 (by omega));go_simp;exact hK _ _ (Keeps.refl _ _) rfl (H.glob)
     case o7 => have e4 : A.tmps[4]?.getD undef = .int .i64 (k : Nat) := H.old 4 (by kernel_rfl);go_simp;exact hK _ _ (Keeps.refl _ _) rfl (H.glob)
     case o8 => have e41 := H.iz hd 7 41 rfl rfl rfl (by kernel_rfl);go_simp;exact hK _ _ (Keeps.refl _ _) rfl (H.glob)
     case o9 => have e42 := H.iz hd 8 42 rfl rfl rfl (by kernel_rfl);go_simp;exact hK _ _ (Keeps.refl _ _) rfl (H.glob)
     case o10 => have e1 : A.tmps[1]?.getD undef = .pointer (some ⟨b1,0,none⟩) := H.old 1 (by kernel_rfl);have e43 := H.iz hd 9 43 rfl rfl rfl (by kernel_rfl);go_simp;exact hK _ _ (Keeps.refl _ _) rfl (H.glob)
     case o11 => have e44 := H.iz hd 10 44 rfl rfl rfl (by kernel_rfl);have c := (H.glob.1.cell (p := ⟨b1,e2,none⟩) HS.out HNE.out).trans (HCW.out e2 (by omega));go_simp;exact hK _ _ (Keeps.refl _ _) rfl (H.glob)
     case o12 => have e2 : A.tmps[2]?.getD undef = .pointer (some ⟨b2,0,none⟩) := H.old 2 (by kernel_rfl);go_simp;exact hK _ _ (Keeps.refl _ _) rfl (H.glob)
     case o13 => have e46 := H.iz hd 12 46 rfl rfl rfl (by kernel_rfl);have e34 := H.iz hd 0 34 rfl rfl rfl (by kernel_rfl);go_simp;exact hK _ _ (Keeps.refl _ _) rfl (H.glob)
     case o14 => have e47 := H.iz hd 13 47 rfl rfl rfl (by kernel_rfl);have e40 := H.iz hd 6 40 rfl rfl rfl (by kernel_rfl);have fz := H.glob.2.frozen (5 + k);have c := H.glob.2.cell (5 + k);rw [ndCells_k _ k hlt] at c;go_simp;exact hK undef _ ((Keeps.refl (fun i => i = b2) _).setCell (p := ⟨b2,5 + k,none⟩) (.inl rfl) _) trivial ⟨H.glob.1.setCell (p := ⟨b2,5 + k,none⟩) (.inl rfl) _,by have := H.glob.2.setk k hlt (f e1);rw [ndKL_set14 f k L HE1.out] at this;exact this⟩
     case o15 => have e2 : A.tmps[2]?.getD undef = .pointer (some ⟨b2,0,none⟩) := H.old 2 (by kernel_rfl);go_simp;exact hK _ _ (Keeps.refl _ _) rfl (H.glob)
     case o16 => have e48 := H.iz hd 15 48 rfl rfl rfl (by kernel_rfl);have e35 := H.iz hd 1 35 rfl rfl rfl (by kernel_rfl);go_simp;exact hK _ _ (Keeps.refl _ _) rfl (H.glob)
     case o17 => have e49 := H.iz hd 16 49 rfl rfl rfl (by kernel_rfl);have e45 := H.iz hd 11 45 rfl rfl rfl (by kernel_rfl);have fz := H.glob.2.frozen (13 + k);have c := H.glob.2.cell (13 + k);rw [ndCells_p _ k hlt] at c;go_simp;exact hK undef _ ((Keeps.refl (fun i => i = b2) _).setCell (p := ⟨b2,13 + k,none⟩) (.inl rfl) _) trivial ⟨H.glob.1.setCell (p := ⟨b2,13 + k,none⟩) (.inl rfl) _,by have := H.glob.2.setp k hlt (f e2);rw [ndKL_set17 f k L HE2.out] at this;exact this⟩
     case he =>
      intro vs W hlen hv
      match vs,hlen,hv with
      | [x0_,x1_,x2_,x3_,x4_,x5_,x6_,x7_,x8_,x9_,x10_,x11_,x12_,x13_,x14_,x15_,x16_,x17_],_,hv =>
      obtain rfl := isv hv 0 rfl rfl;obtain rfl := isv hv 1 rfl rfl;obtain rfl := isv hv 2 rfl rfl;obtain rfl := isv hv 3 rfl rfl;obtain rfl := isv hv 4 rfl rfl;obtain rfl := isv hv 5 rfl rfl;obtain rfl := isv hv 6 rfl rfl;obtain rfl := isv hv 7 rfl rfl;obtain rfl := isv hv 8 rfl rfl;obtain rfl := isv hv 9 rfl rfl;obtain rfl := isv hv 10 rfl rfl;obtain rfl := isv hv 11 rfl rfl;obtain rfl := isv hv 12 rfl rfl;obtain rfl := isv hv 13 rfl rfl;obtain rfl := isv hv 15 rfl rfl;obtain rfl := isv hv 16 rfl rfl
      intro L hall hG
      clear hv hlen
      have HW2 := Lib.hid (show OfW w f b1 b2 (nTo f (k + 1)) W from HW.out.next hG.1 (by have := hG.2;rw [ndKL_all f k L (hall 14 (by decide)) (hall 17 (by decide))] at this;exact this))
      clear hG hall
      simp only [fill,if_true]
      go_simp
      go_wp2_with (fail)
      go_roundw
      case rel => exact ⟨k + 1,by omega,by go_num,HW2⟩
      case measure => simp [intOf];omega
    ·have hk8 : k = 8 := by omega
     have HW2 := Lib.hid (show OfW w f b1 b2 (nTo f 8) wr by have := HW.out;rwa [hk8] at this)
     have HLd2 := Lib.hid (ndLoad HW2.out.m)
     have HIw2 := Lib.hid (info27 (nTo f 8))
     clear hk8 HW
     go_upto_region 9 with (fail)
     go_wp2_with (first | (with_reducible refine wpList_load_part (o := ⟨some 51,_,_,_,_,_⟩) rfl 46 _ rfl b2 0 rfl (ndCells (nTo f 8)) _ HLd2.out Tryz.underlying46 rfl HIw2.out ?_) | (refine wpList_store_nd (o := ⟨none,.store 46 (.tmp 2) (.tmp 51),_,_,_,_⟩) rfl (.tmp 2) (.tmp 51) ?hoc b2 (nTo f 8) (nTo f 8) ?hxc ?hyc HW2.out.m ?_;(case hoc => rfl);(case hxc => rfl);(case hyc => rfl)))
     rw [HF.out]
     exact bodyPost_ret (results_nd rfl _ b2 (nTo f 8) rfl (HW2.out.m.row _)) rfl ⟨rfl,below_setRow HW2.out.b (by have := HW2.out.lt;omega) _⟩
end Go.Proofs.YtodgfbjjjgohgaaGreat
