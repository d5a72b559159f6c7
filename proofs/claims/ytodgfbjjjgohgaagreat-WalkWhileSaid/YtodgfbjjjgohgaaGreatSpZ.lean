/-
 pmem.Mem.Store where rows may be cut: a contract.
-/
import Derived.Test.YtodgfbjjjgohgaaGreatSoZ
import Derived.Test.YtodgfbjjjgohgaaGreatRwZ
namespace Go.Proofs.YtodgfbjjjgohgaaGreat
open Go.RowKit Go.Maps
set_option linter.unusedVariables false

structure MemC (w : World) (N0 mb : Nat) (vs is : List Int) (vv vi : Value) (ml n : Nat) (D : DataW Value) (sl : Int -> Value) (mk : Int -> Nat -> Int) (F : Int -> List (Int × Int)) (lo st fl fe : Int) : Prop where
 m : MemB w mb vs is vv vi ml lo st fl fe
 o : OwnL w ml n D
 e : ∀ a,hasL D a (.agg (lnCells (sl a) (mk a)))
 r : ∀ a,RowC w N0 (sl a) (F a)
 d : ∀ a a' i,a ≠ a' -> (sl a).ownBlock = some i -> (sl a').ownBlock ≠ some i
 lt : ∀ i,i = mb ∨ i = ml ∨ vv.ownBlock = some i ∨ vi.ownBlock = some i -> i < N0
 x : ml ≠ mb /\ vv.ownBlock ≠ some ml /\ vi.ownBlock ≠ some ml
 xv : ∀ i,vv.ownBlock = some i -> vi.ownBlock ≠ some i
def StoreP (w : World) (N0 mb : Nat) (vs is : List Int) (vv vi : Value) (ml n : Nat) (D : DataW Value) (sl : Int -> Value) (mk : Int -> Nat -> Int) (F : Int -> List (Int × Int)) (lo st fl fe : Int) (a x : Int) (e : Ending) (w' : World) : Prop :=
 e = .returned (.int .i64 0) /\ ∃ v' D',MemC w' N0 mb (vs.set (a / 8).toNat x) is vv vi ml (n + 1) D' (updV sl (lineOf a) v') mk (updF F (lineOf a) (F (lineOf a) ++ [(a,x)])) lo (st + 1) fl fe ∧
  D' = D.put (.int .u64 (lineOf a)) (.held (.agg (lnCells v' (mk (lineOf a))))) /\ (∀ i,v'.ownBlock = some i -> (sl (lineOf a)).ownBlock = some i ∨ w.heap.size <= i) ∧
  Keeps (fun k => k = mb ∨ k = ml ∨ vv.ownBlock = some k ∨ (sl (lineOf a)).ownBlock = some k) w w'
set_option maxRecDepth 100000 in
set_option maxHeartbeats 40000000 in
theorem mstore_k (w : World) (N0 mb : Nat) (vs is : List Int) (vv vi : Value) (ml n : Nat) (D : DataW Value) (sl : Int -> Value) (mk : Int -> Nat -> Int) (F : Int -> List (Int × Int)) (lo st fl fe : Int)
  (h : MemC w N0 mb vs is vv vi ml n D sl mk F lo st fl fe) (hN0 : N0 <= w.heap.size) (hp : 0 < vs.length) (hnv : vs.length <= 1000000) (a x : Int) (h0 : 0 <= a) (h1 : a <= 18446744073709551615) (he : atE vs.length a = 0)
  (hs0 : 0 <= st) (hs1 : st <= 1000000) (hn : n <= 1000000) (hF : (F (lineOf a)).length <= 1000000) :
  Calls Tryz.prog 15 #[.pointer (some ⟨mb,0,none⟩),.int .u64 a,.int .u64 x] w (StoreP w N0 mb vs is vv vi ml n D sl mk F lo st fl fe a x) := by
 obtain ⟨i0,hi,hz0,hz1,hz2⟩ := info_parts Tryz.infoPut
 obtain ⟨hm8,ha8⟩ := atE_zero he
 obtain ⟨k,hk⟩ : ∃ k : Nat,a / 8 = (k : Int) := ⟨(a / 8).toNat,by omega⟩
 have hkv : k < vs.length := by omega
 have hkt : (a / 8).toNat = k := by omega
 have HKt := Lib.hid hkt
 have HAt := Lib.hid (mat_v w mb vs is vv vi ml lo st fl fe h.m hp hnv a h0 h1)
 rw [he] at HAt
 obtain ⟨gv,cv,rfl,hgl,_,hcv⟩ := h.m.at hkv
 have hfz := own_frozen h.m.v k
 have c4 : w.cell? ⟨mb,4,none⟩ = some (.int .u64 st) := h.m.c 4
 have c0 : w.cell? ⟨mb,0,none⟩ = some (.slice (some ⟨gv,0,none⟩) vs.length cv) := h.m.c 0
 have fz4 := h.m.blk.frozen 4
 have hst : IntKind.u64.wrap (st + 1) = st + 1 := IntWalk.u64_in _ (by omega)
 have hgm : gv ≠ mb := fun e => h.m.ne.1 (by rw [e];rfl)
 have hgm2 : mb ≠ gv := fun e => hgm e.symm
 have hkb : (k : Int) < (vs.length : Int) := by omega
 have HH := Lib.hid h
 have HHe := Lib.hid he
 obtain ⟨a0,ha0⟩ : ∃ a0,lineOf a = a0 := ⟨_,rfl⟩
 rw [ha0] at hF
 have HA0 := Lib.hid ha0
 clear h he ha0
 go_enter Tryz.func15,Tryz.ntmps15
 go_wp2_with (fail)
 refine HAt.out.mono ?_
 rintro e w' ⟨rfl,rfl⟩
 go_wp2_with (fail)
 have k4 : Keeps (fun k => k = mb ∨ k = gv) w ((w.setCell ⟨mb,4,none⟩ (.int .u64 (st + 1))).setCell ⟨gv,k,none⟩ (.int .u64 x)) := ((Keeps.refl (fun k => k = mb ∨ k = gv) w).setCell (p := ⟨mb,4,none⟩) (.inl (.inl rfl)) _).setCell (p := ⟨gv,k,none⟩) (.inl (.inr rfl)) _
 have hm4 : MemB ((w.setCell ⟨mb,4,none⟩ (.int .u64 (st + 1))).setCell ⟨gv,k,none⟩ (.int .u64 x)) mb (vs.set k x) is (.slice (some ⟨gv,0,none⟩) vs.length cv) vi ml lo (st + 1) fl fe := by
  have hv1 := ownsRow_setCell_other HH.out.m.v (a := ⟨mb,4,none⟩) HH.out.m.ne.1 (.int .u64 (st + 1))
  have hi1 := ownsRow_setCell_other HH.out.m.i (a := ⟨mb,4,none⟩) HH.out.m.ne.2 (.int .u64 (st + 1))
  refine ⟨(HH.out.m.blk.set 4 (.int .u64 (st + 1))).other k _ hgm2,?_,ownsRow_setCell_other hi1 (a := ⟨gv,k,none⟩) (HH.out.xv gv rfl) _⟩
  have := own_set hv1 k (.int .u64 x)
  rw [List.length_set,List.map_set]
  exact this
 have HM4 := Lib.hid hm4
 have HK4 := Lib.hid k4
 generalize (w.setCell ⟨mb,4,none⟩ (.int .u64 (st + 1))).setCell ⟨gv,k,none⟩ (.int .u64 x) = W4 at *
 have hnb : ∀ i,N0 <= i -> i ≠ mb /\ i ≠ gv := fun i hi => ⟨fun e => by have := HH.out.lt mb (.inl rfl);omega,fun e => by have := HH.out.lt gv (.inr (.inr (.inl rfl)));omega⟩
 have ha0b : 0 <= a0 /\ a0 <= 18446744073709551615 := by rw [<- HA0.out];unfold lineOf;omega
 have HBg := Lib.hid (fun W => begin_v a h0 h1 W)
 rw [HA0.out] at HBg
 have hO4 : OwnL W4 ml n D := ownL_keeps HH.out.o k4 (by rintro (e | e);exact HH.out.x.1 e;exact HH.out.x.2.1 (by rw [e];rfl))
 obtain ⟨s0,hs0e⟩ : ∃ s0,sl a0 = s0 := ⟨_,rfl⟩
 obtain ⟨f0,hf0⟩ : ∃ f0,mk a0 = f0 := ⟨_,rfl⟩
 have hE4 : hasL D a0 (.agg (lnCells s0 f0)) := by rw [<- hs0e,<- hf0];exact HH.out.e a0
 have hR4 : RowC W4 N0 s0 (F a0) := by
  rw [<- hs0e]
  exact (HH.out.r a0).keeps k4 (fun i hi => by have := hnb i ((HH.out.r a0).base i hi);rintro (e | e);exact this.1 e;exact this.2 e)
 have HC6 := Lib.hid (show ∀ L,(St6 W4 s0 f0 L).cell? ⟨mb,2,none⟩ = some (.map (some ml)) from fun L => by
  rw [(St6.keeps (S := NoB) W4 s0 f0 L).cell (p := ⟨mb,2,none⟩) hm4.blk.lt (fun h => h)];exact hm4.c 2)
 have HL6 := Lib.hid (show ∀ L,(Instr.lookup 90 (.map (some ml)) (.int .u64 a0) false).run Tryz.prog (St6 W4 s0 f0 L) = .ok (.agg (lnCells s0 f0)) (St6 W4 s0 f0 L) from fun L =>
  own_look (ownL_keeps hO4 (St6.keeps (S := NoB) W4 s0 f0 L) (fun h => h)) a0 ha0b.1 ha0b.2 hE4)
 have Hs1 := Lib.hid hR4.one
 have HO4 := Lib.hid hO4
 have HE4 := Lib.hid hE4
 have HR4 := Lib.hid hR4
 have HNb := Lib.hid hnb
 have HS0 := Lib.hid hs0e
 have HF0 := Lib.hid hf0
 have HA0b := Lib.hid ha0b
 clear hm4 k4 hnb hO4 hE4 hR4 hs0e hf0 ha0b c4 c0 fz4 hfz hcv hm8 ha8 hk hkt
 refine wp_region_vals [Is (.pointer (some ⟨mb,0,none⟩)),Is (.pointer (some ⟨mb,0,none⟩)),Is (.pointer (some ⟨mb,2,none⟩)),Is (.map (some ml)),Is (.int .u64 a),Is (.int .u64 a0),Is (.agg (lnCells s0 f0)),Is (.pointer (some ⟨W4.heap.size,0,none⟩)),Any]
  (fun _ _ _ => True) (fun L W => W = St6 W4 s0 f0 L) (by kernel_rfl) (by kernel_rfl) (by kernel_rfl) ?hst ?h0 ⟨?o0,?o1,?o2,?o3,?o4,?o5,?o6,?o7,?o8,trivial⟩ ?he
 any_goals (intro L vs A W H hf hd K hK)
 case hst => repeat' (first | exact trivial | refine ⟨fun _ _ _ _ _ _ h _ => h,?_⟩)
 case h0 =>
  exact rfl
 case o0 => have e0 : A.tmps[0]?.getD undef = .pointer (some ⟨mb,0,none⟩) := H.old 0 (by kernel_rfl);go_simp;exact hK _ _ (trivial) rfl (H.glob)
 case o1 => have e32 := H.iz hd 0 32 rfl rfl rfl (by kernel_rfl);go_simp;exact hK _ _ (trivial) rfl (H.glob)
 case o2 => have e33 := H.iz hd 1 33 rfl rfl rfl (by kernel_rfl);go_simp;exact hK _ _ (trivial) rfl (H.glob)
 case o3 => have e34 := H.iz hd 2 34 rfl rfl rfl (by kernel_rfl);have d : W.cell? ⟨mb,2,none⟩ = some (.map (some ml)) := (by rw [H.glob];exact HC6.out L);go_simp;exact hK _ _ (trivial) rfl (H.glob)
 case o4 => have e1 : A.tmps[1]?.getD undef = .int .u64 a := H.old 1 (by kernel_rfl);go_simp;exact hK _ _ (trivial) rfl (H.glob)
 case o5 => have e36 := H.iz hd 4 36 rfl rfl rfl (by kernel_rfl);go_simp;refine (HBg.out W).mono ?_;rintro e w' ⟨rfl,rfl⟩;go_simp;exact hK _ _ trivial rfl H.glob
 case o6 => have e35 := H.iz hd 3 35 rfl rfl rfl (by kernel_rfl);have e37 := H.iz hd 5 37 rfl rfl rfl (by kernel_rfl);have hl : (Instr.lookup 90 (.map (some ml)) (.int .u64 a0) false).run Tryz.prog W = .ok (.agg (lnCells s0 f0)) W := (by rw [H.glob];exact HL6.out L);go_simp;exact hK _ _ (trivial) rfl (H.glob)
 case o7 => have n8 := H.notYet 8 7 rfl hf (by kernel_rfl);have hW : W = W4.drew := (by have h9 := H.glob;unfold St6 at h9;rw [n8,hf] at h9;exact h9);rw [if_pos (show Region.wanted _ _ = true from rfl)];refine wp_alloc_ln rfl ?_;subst hW;exact hK _ _ trivial rfl (by show _ = St6 W4 s0 f0 (lset L 7);unfold St6;rw [show lset L 7 8 = L 8 from rfl,n8];rfl)
 case o8 => have e8 := H.iz hd 7 8 rfl rfl rfl (by kernel_rfl);have e38 := H.iz hd 6 38 rfl rfl rfl (by kernel_rfl);have h7 : L 7 = true := deps_of' hd 7 (by kernel_rfl);have hW : W = W4.drew.alloc (.cells (lnCells (.slice none 0 0) (fun _ => 0)) 95) := (by have h9 := H.glob;unfold St6 at h9;rw [hf,h7] at h9;exact h9);rw [if_pos (show Region.wanted _ _ = true from rfl)];subst hW;refine wp_store_ln _ _ rfl W4.heap.size s0 _ f0 _ Hs1.out (ev_tmp e8) (ev_tmp e38) (Blk.new W4.drew _ _) ?_;exact hK _ _ trivial trivial rfl
 case he =>
  intro vs W hlen hv
  match vs,hlen,hv with
  | [x0_,x1_,x2_,x3_,x4_,x5_,x6_,x7_,x8_],_,hv =>
  obtain rfl := isv hv 0 rfl rfl;obtain rfl := isv hv 1 rfl rfl;obtain rfl := isv hv 2 rfl rfl;obtain rfl := isv hv 3 rfl rfl;obtain rfl := isv hv 4 rfl rfl;obtain rfl := isv hv 5 rfl rfl;obtain rfl := isv hv 6 rfl rfl;obtain rfl := isv hv 7 rfl rfl
  intro L hall hG
  clear hv hlen
  have HW := hG
  have h8 := hall 8 (by decide)
  unfold St6 at HW
  rw [h8] at HW
  clear hG hall h8
  subst HW
  simp only [fill,if_true]
  have KX : Keeps NoB W4 ((W4.drew.alloc (.cells (lnCells (.slice none 0 0) (fun _ => 0)) 95)).setRow W4.heap.size (lnCells s0 f0)) := keeps_setRow ((Keeps.refl NoB W4).drew.alloc _) (.inr (Nat.le_refl _)) _
  have BX : Blk ((W4.drew.alloc (.cells (lnCells (.slice none 0 0) (fun _ => 0)) 95)).setRow W4.heap.size (lnCells s0 f0)) W4.heap.size (lnCells s0 f0) 95 := (Blk.new W4.drew _ _).row _
  obtain ⟨lb,hlb⟩ : ∃ lb,W4.heap.size = lb := ⟨_,rfl⟩
  rw [hlb] at KX BX ⊢
  generalize ((W4.drew.alloc (.cells (lnCells (.slice none 0 0) (fun _ => 0)) 95)).setRow lb (lnCells s0 f0)) = W6 at *
  have hR6 := HR4.out.keeps KX (fun _ _ h => h)
  have HR6 := Lib.hid hR6
  have HKX := Lib.hid KX
  have HBX := Lib.hid BX
  have HLB := Lib.hid hlb
  have hlN : N0 <= lb := by rw [<- hlb];exact Nat.le_trans hN0 HK4.out.size
  have hN6 : N0 <= W6.heap.size := Nat.le_trans hlN (Nat.le_of_lt BX.lt)
  have d0 : W6.cell? ⟨lb,0,none⟩ = some s0 := by rw [BX.cell];exact lnCells_0 _ _
  clear KX BX hR6 hlb hv
  have hR7 : RowC (W6.alloc (.cells #[.int .u64 a,.int .u64 x] 56)) N0 s0 (F a0) := HR6.out.keeps ((Keeps.refl NoB W6).alloc _) (fun _ _ h => h)
  have HR7 := Lib.hid hR7
  clear hR7
  go_wp2_with (at_builtin;refine wpList_append_rowC rfl _ _ 57 rfl N0 s0 (F a0) HR7.out i0 (.agg #[.int .u64 0,.int .u64 0]) Tryz.underlying57 hi hz0 hz1 hz2 rfl W6.heap.size (a,x) rfl rfl (reads_two _ _ _ _) (by simp;omega) hF ?_)
  intro v9 wA hown' hgrow hblk
  rw [show ecells (F a0) ++ ecells [(a,x)] = ecells (F a0) ++ [Value.int .u64 a,Value.int .u64 x] from rfl] at hown'
  obtain ⟨p1,n1,c1,rfl⟩ := own_slice hown'
  have hs0l : ∀ i,s0.ownBlock = some i -> i < lb := fun i hi => by rw [<- HLB.out];exact HR4.out.lt hi
  have BA : Blk wA lb (lnCells s0 f0) 95 := (HBX.out.alloc _).grown hgrow (fun e => by have := hs0l lb e.symm;omega)
  have fA := BA.frozen 0
  have dA : wA.cell? ⟨lb,0,none⟩ = some s0 := by rw [BA.cell];exact lnCells_0 _ _
  have kS : Keeps (fun k => s0.ownBlock = some k ∨ k = lb) W6 (wA.setCell ⟨lb,0,none⟩ (.slice p1 n1 c1)) := (((Keeps.refl (fun k => s0.ownBlock = some k ∨ k = lb) W6).alloc _).grown hgrow (fun k e => .inl (.inl e))).setCell (p := ⟨lb,0,none⟩) (.inl (.inr rfl)) _
  have hv7 : (wA.setCell ⟨lb,0,none⟩ (.slice p1 n1 c1)).ownsRow N0 56 2 (.slice p1 n1 c1) (F a0 ++ [(a,x)]).length (ecells (F a0 ++ [(a,x)])) := by
   have := ownsRow_setCell_other hown' (a := ⟨lb,0,none⟩) (by
    rcases hblk with h | h
    ·rw [h];intro e;have := hs0l lb e;omega
    ·rw [h];intro e;have e2 := Option.some.inj e;have := HBX.out.lt;(try simp at e2);omega) (.slice p1 n1 c1)
   rw [List.length_append,show ecells (F a0 ++ [(a,x)]) = ecells (F a0) ++ [.int .u64 a,.int .u64 x] by simp [ecells]]
   exact this
  have b7 : Blk (wA.setCell ⟨lb,0,none⟩ (.slice p1 n1 c1)) lb (lnCells (.slice p1 n1 c1) f0) 95 := by
   have := BA.set 0 (.slice p1 n1 c1)
   rwa [lnCells_set0] at this
  have HVB := Lib.hid (show ∀ i,(Value.slice p1 n1 c1).ownBlock = some i -> s0.ownBlock = some i ∨ lb < i from fun i hi => by
   rcases hblk with h | h
   ·exact .inl (by rw [<- h];exact hi)
   ·rw [h] at hi;have e2 := Option.some.inj hi;have := HBX.out.lt;(try simp at e2);exact .inr (by omega))
  have HKS := Lib.hid kS
  have HV7 := Lib.hid hv7
  have HB7 := Lib.hid b7
  have HS0l := Lib.hid hs0l
  have hcs : (wA.cell? ⟨lb,0,none⟩).isSome = true := by rw [dA];rfl
  clear hown' hgrow hblk BA kS hv7 b7 hs0l
  go_wp2_with (fail)
  generalize wA.setCell ⟨lb,0,none⟩ (.slice p1 n1 c1) = W7 at *
  generalize (Value.slice p1 n1 c1) = v' at *
  have k47 : Keeps (fun k => N0 <= k) W4 W7 := (HKX.out.mono (fun _ _ h => h.elim)).trans (HKS.out.mono (fun k _ h => by rcases h with h | h;exact HR4.out.base k h;omega))
  have HM7 := Lib.hid (HM4.out.kept k47 (fun i hi => by have := HH.out.lt i (by rcases hi with h | h | h;exact .inl h;exact .inr (.inr (.inl h));exact .inr (.inr (.inr h)));omega))
  have HO7 := Lib.hid (ownL_keeps HO4.out k47 (by have := HH.out.lt ml (.inr (.inl rfl));omega))
  have HC7 := Lib.hid (show W7.cell? ⟨mb,2,none⟩ = some (.map (some ml)) from HM7.out.c 2)
  obtain ⟨D',hD'⟩ : ∃ D',D.put (.int .u64 a0) (.held (.agg (lnCells v' f0))) = D' := ⟨_,rfl⟩
  have HU7 := Lib.hid (World.ownsMap.update (HO7.out.drew) kA Tryz.underlying90 (by unfold maxLen;omega) (keyOf_int_mk Tryz.underlying39 (addr_wf HA0b.out.1 HA0b.out.2)) (val := .agg (lnCells v' f0)) (d := .held (.agg (lnCells v' f0))) (ps := []) rfl)
  rw [hD'] at HU7
  have HD' := Lib.hid hD'
  clear k47 hD' hcs fA dA
  refine wp_region_vals [Is (.pointer (some ⟨mb,0,none⟩)),Is (.pointer (some ⟨mb,0,none⟩)),Is (.pointer (some ⟨mb,2,none⟩)),Is (.map (some ml)),Is (.int .u64 a),Is (.int .u64 a0),Is (.agg (lnCells v' f0)),Any]
   (fun _ _ _ => True) (fun L W => St8 W7 ml n D' L W) (by kernel_rfl) (by kernel_rfl) (by kernel_rfl) ?hst ?h0 ⟨?o0,?o1,?o2,?o3,?o4,?o5,?o6,?o7,trivial⟩ ?he
  any_goals (intro L vs A W H hf hd K hK)
  case hst => repeat' (first | exact trivial | refine ⟨fun _ _ _ _ _ _ h _ => h,?_⟩)
  case h0 =>
   exact ⟨fun _ => rfl,fun e => by cases e⟩
  case o0 => have e0 : A.tmps[0]?.getD undef = .pointer (some ⟨mb,0,none⟩) := H.old 0 (by kernel_rfl);go_simp;exact hK _ _ (trivial) rfl (H.glob)
  case o1 => have e47 := H.iz hd 0 47 rfl rfl rfl (by kernel_rfl);go_simp;exact hK _ _ (trivial) rfl (H.glob)
  case o2 => have e48 := H.iz hd 1 48 rfl rfl rfl (by kernel_rfl);go_simp;exact hK _ _ (trivial) rfl (H.glob)
  case o3 => have e49 := H.iz hd 2 49 rfl rfl rfl (by kernel_rfl);have n7 := H.notYet 7 3 rfl hf (by kernel_rfl);have d : W.cell? ⟨mb,2,none⟩ = some (.map (some ml)) := (by rw [H.glob.1 n7];exact HC7.out);go_simp;exact hK _ _ (trivial) rfl (H.glob)
  case o4 => have e1 : A.tmps[1]?.getD undef = .int .u64 a := H.old 1 (by kernel_rfl);go_simp;exact hK _ _ (trivial) rfl (H.glob)
  case o5 => have e51 := H.iz hd 4 51 rfl rfl rfl (by kernel_rfl);go_simp;refine (HBg.out W).mono ?_;rintro e w' ⟨rfl,rfl⟩;go_simp;exact hK _ _ trivial rfl H.glob
  case o6 => have e8 : A.tmps[8]?.getD undef = .pointer (some ⟨lb,0,none⟩) := H.old 8 (by kernel_rfl);have n7 := H.notYet 7 6 rfl hf (by kernel_rfl);rw [if_pos (show Region.wanted _ _ = true from rfl)];exact wp_load_ln _ rfl lb v' f0 (ev_tmp e8) (by rw [H.glob.1 n7];exact HB7.out.drew) (hK _ _ trivial rfl H.glob)
  case o7 => have e50 := H.iz hd 3 50 rfl rfl rfl (by kernel_rfl);have e52 := H.iz hd 5 52 rfl rfl rfl (by kernel_rfl);have e53 := H.iz hd 6 53 rfl rfl rfl (by kernel_rfl);have hW := H.glob.1 hf;obtain ⟨w8,hrun,ho8,hg8⟩ := HU7.out;subst hW;go_simp;exact hK undef _ trivial trivial ⟨fun e => (by cases e),fun _ => ⟨ho8,hg8⟩⟩
  case he =>
   intro vs W hlen hv
   match vs,hlen,hv with
   | [x0_,x1_,x2_,x3_,x4_,x5_,x6_,x7_],_,hv =>
   obtain rfl := isv hv 0 rfl rfl;obtain rfl := isv hv 1 rfl rfl;obtain rfl := isv hv 2 rfl rfl;obtain rfl := isv hv 3 rfl rfl;obtain rfl := isv hv 4 rfl rfl;obtain rfl := isv hv 5 rfl rfl;obtain rfl := isv hv 6 rfl rfl
   intro L hall hG
   clear hv hlen
   have HW := Lib.hid (hG.2 (hall 7 (by decide)))
   clear hG hall
   simp only [fill,if_true]
   simp [Act.put]
   go_wp2_with (fail)
   go_ret
   have kU : Keeps (fun k => k = ml) W7 W := ((Keeps.refl (fun k => k = ml) W7).drew).grown HW.out.2 (fun k e => .inl (Option.some.inj e).symm)
   have k67 : ∀ v xs,RowC W6 N0 v xs -> (∀ i,v.ownBlock = some i -> s0.ownBlock ≠ some i /\ i < lb) -> RowC W7 N0 v xs := fun v xs hr hb => hr.keeps HKS.out (fun i hi => by
    have := hb i hi
    rintro (e | e)
    ·exact this.1 e
    ·omega)
   have hmlN := HH.out.lt ml (.inr (.inl rfl))
   have rowU : ∀ v xs,RowC W7 N0 v xs -> RowC W N0 v xs := fun v xs hr => hr.keeps kU (fun i hi e => by have := hr.base i hi;omega)
   have blkL : ∀ b i,(sl b).ownBlock = some i -> i < lb := fun b i hi => by
    rw [<- HLB.out]
    exact Nat.lt_of_lt_of_le ((HH.out.r b).lt hi) HK4.out.size
   unfold StoreP
   rw [HA0.out,HKt.out]
   refine ⟨rfl,v',D',?_,?_,fun i hi => ?_,?_⟩
   ·skip
    refine ⟨HM7.out.kept kU (fun i hi e => ?_),HW.out.1,fun b => ?_,fun b => ?_,fun b b2 i hne hb => ?_,HH.out.lt,HH.out.x,HH.out.xv⟩
    ·subst e
     rcases hi with h | h | h
     ·exact HH.out.x.1 h
     ·exact HH.out.x.2.1 h
     ·exact HH.out.x.2.2 h
    ·rw [<- HD'.out]
     unfold hasL updV
     by_cases hb : b = a0
     ·subst hb
      rw [if_pos rfl,atKey_put_same (HO7.out.isMap) (show WideAt.IsKeyLit (.int .u64 b) from trivial),HF0.out]
     ·rw [if_neg hb,atKey_put_other (by intro e;cases e;exact hb rfl)]
      exact HH.out.e b
    ·unfold updV updF
     by_cases hb : b = a0
     ·rw [if_pos hb,if_pos hb]
      exact rowU _ _ (.inl HV7.out)
     ·rw [if_neg hb,if_neg hb]
      have hr4 := (HH.out.r b).keeps HK4.out (fun i hi => by have := HNb.out i ((HH.out.r b).base i hi);rintro (e | e);exact this.1 e;exact this.2 e)
      have hr6 := hr4.keeps HKX.out (fun _ _ h => h)
      exact rowU _ _ (k67 _ _ hr6 (fun i hi => ⟨fun e => HH.out.d b a0 i hb hi (by rw [HS0.out];exact e),blkL b i hi⟩))
    ·unfold updV at hb ⊢
     by_cases h1 : b = a0
     ·rw [if_pos h1] at hb
      rw [if_neg (fun e => hne (h1.trans e.symm))]
      intro h2
      rcases HVB.out i hb with h | h
      ·exact HH.out.d a0 b2 i (fun e => hne (h1.trans e)) (by rw [HS0.out];exact h) h2
      ·have := blkL b2 i h2;omega
     ·rw [if_neg h1] at hb
      by_cases h2 : b2 = a0
      ·rw [if_pos h2]
       intro h3
       rcases HVB.out i h3 with h | h
       ·exact HH.out.d b a0 i h1 hb (by rw [HS0.out];exact h)
       ·have := blkL b i hb;omega
      ·rw [if_neg h2]
       exact HH.out.d b b2 i hne hb
   ·rw [HF0.out,HD'.out]
   ·rw [HS0.out]
    rcases HVB.out i hi with h | h
    ·exact .inl h
    ·right
     have := HK4.out.size
     have := HLB.out
     omega
   ·rw [HS0.out]
    refine ((HK4.out.mono (fun k _ h => ?_)).trans' ((HKX.out.mono (fun _ _ h => h.elim)).trans (HKS.out.mono (S' := fun k => s0.ownBlock = some k ∨ W4.heap.size <= k) (fun k _ h => ?_))) (fun k hk h => ?_)).trans (kU.mono (fun k _ h => .inr (.inl h)))
    ·rcases h with h | h
     ·exact .inl h
     ·exact .inr (.inr (.inl (by rw [h];rfl)))
    ·rcases h with h | h
     ·exact .inl h
     ·exact .inr (by rw [h,HLB.out];exact Nat.le_refl _)
    ·rcases h with h | h
     ·exact .inr (.inr (.inr h))
     ·have := HK4.out.size;omega
end Go.Proofs.YtodgfbjjjgohgaaGreat
