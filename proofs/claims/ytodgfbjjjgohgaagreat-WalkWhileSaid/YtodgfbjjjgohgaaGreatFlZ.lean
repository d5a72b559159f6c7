/-
 pmem.Mem.Flush: a contract.
-/
import Derived.Test.YtodgfbjjjgohgaaGreatLtZ
namespace Go.Proofs.YtodgfbjjjgohgaaGreat
open Go.RowKit Go.Maps
set_option linter.unusedVariables false

def StA (ia ib : Nat) (W4 : World) (s0 : Value) (f0 : Nat -> Int) (L : Nat -> Bool) : World :=
 if L ib then (W4.drew.alloc (.cells (lnCells (.slice none 0 0) (fun _ => 0)) 95)).setRow W4.heap.size (lnCells s0 f0)
 else if L ia then W4.drew.alloc (.cells (lnCells (.slice none 0 0) (fun _ => 0)) 95) else W4.drew
theorem StA.keeps {S : Nat -> Prop} (ia ib : Nat) (W4 : World) (s0 : Value) (f0 : Nat -> Int) (L : Nat -> Bool) : Keeps S W4 (StA ia ib W4 s0 f0 L) := by
 unfold StA
 split
 ·exact keeps_setRow ((Keeps.refl S W4).drew.alloc _) (.inr (Nat.le_refl _)) _
 ·split
  ·exact (Keeps.refl S W4).drew.alloc _
  ·exact (Keeps.refl S W4).drew
theorem own_look_ok {w : World} {ml n : Nat} {D : DataW Value} (h : OwnL w ml n D) (a : Int) (h0 : 0 <= a) (h1 : a <= 18446744073709551615) {v : Value} (hv : hasL D a v) :
  (Instr.lookup 90 (.map (some ml)) (.int .u64 a) true).run Tryz.prog w = .ok (.tuple #[v,.bool (Maps.has D (.int .u64 a))]) w := by
 obtain ⟨v',ps,hrun,hr⟩ := h.look_ok kA Tryz.underlying90 (zero_ln w) (zd := .held zL) (zp := []) rfl (keyOf_int_mk Tryz.underlying39 (addr_wf h0 h1))
 unfold hasL at hv
 rw [hv] at hr
 unfold RV at hr
 rw [hrun,DataW.held.inj (Prod.mk.inj (Option.some.inj hr)).1]
theorem lnCells_injF {s s' : Value} {f f' : Nat -> Int} (h : lnCells s f = lnCells s' f') (i : Nat) (hi : i < 65) : f i = f' i := by
 have h0 := lnCells_at s f i hi
 rw [h,lnCells_at _ _ _ hi] at h0
 exact (Value.int.inj (Option.some.inj h0)).2.symm
theorem hasL_none {w : World} {N0 : Nat} {D : DataW Value} {a : Int} {s : Value} {f : Nat -> Int} {l : List (Int × Int)} (he : hasL D a (.agg (lnCells s f))) (hr : RowC w N0 s l) (hh : Maps.has D (.int .u64 a) = false) : l = [] /\ ∀ i,i < 65 -> f i = 0 := by
 unfold hasL at he
 rw [atKey_of_not_has hh] at he
 unfold zL at he
 have h1 := Value.agg.inj (DataW.held.inj he)
 have h2 := lnCells_inj h1
 subst h2
 obtain ⟨a,c,h3,_⟩ := hr.form
 refine ⟨List.eq_nil_of_length_eq_zero (Value.slice.inj h3).2.1.symm,fun i hi => (lnCells_injF h1 i hi).symm⟩
def mkS (f : Nat -> Int) (c : Nat) (x : Int) : Nat -> Int := fun i => if i = c then x else f i
def updM (mk : Int -> Nat -> Int) (a0 : Int) (f : Nat -> Int) : Int -> Nat -> Int := fun a => if a = a0 then f else mk a
theorem lnCells_setS (X : Value) (f : Nat -> Int) (c : Nat) (x : Int) (h : c < 65) : (lnCells X f).setIfInBounds (1 + c) (.int .i64 x) = lnCells X (mkS f c x) := by
 apply Array.ext_getElem?
 intro i
 rw [Array.getElem?_setIfInBounds,lnCells_size]
 by_cases e : 1 + c = i
 ·subst e
  rw [if_pos rfl,if_pos (by omega),lnCells_at _ _ _ h]
  unfold mkS;rw [if_pos rfl]
 ·rw [if_neg e]
  match i with
  | 0 => rw [lnCells_0,lnCells_0]
  | i + 1 =>
   rw [Nat.add_comm i 1]
   by_cases hi : i < 65
   ·rw [lnCells_at _ _ _ hi,lnCells_at _ _ _ hi]
    unfold mkS
    rw [if_neg (by omega)]
   ·rw [Array.getElem?_eq_none (by rw [lnCells_size];omega),Array.getElem?_eq_none (by rw [lnCells_size];omega)]
theorem client_v (c : Nat) (hc : c <= 64) (w : World) : Calls Tryz.prog 128 #[.int .i64 c] w fun e w' => e = .returned (.int .i64 0) /\ w = w' := by
 have b1 : decide ((c : Int) < 0) = false := decide_eq_false (by omega)
 have b2 : decide ((64 : Int) < (c : Int)) = false := decide_eq_false (by omega)
 clear hc
 go_enter Tryz.func128,Tryz.ntmps128
 go_wp2_with (fail)
 go_ret
 exact ⟨rfl,rfl⟩
set_option maxRecDepth 100000 in
set_option maxHeartbeats 40000000 in
theorem mflush_c (w : World) (N0 mb : Nat) (vs is : List Int) (vv vi : Value) (ml n : Nat) (D : DataW Value) (sl : Int -> Value) (mk : Int -> Nat -> Int) (F : Int -> List (Int × Int)) (lo st fl fe : Int)
  (h : MemC w N0 mb vs is vv vi ml n D sl mk F lo st fl fe) (hN0 : N0 <= w.heap.size) (hp : 0 < vs.length) (hnv : vs.length <= 1000000) (c : Nat) (hc : c <= 64) (a : Int) (h0 : 0 <= a) (h1 : a <= 18446744073709551615) (he : atE vs.length a = 0)
  (hs0 : 0 <= fl) (hs1 : fl <= 1000000) (hn : n <= 1000000) (hF : (F (lineOf a)).length <= 1000000) :
  Calls Tryz.prog 126 #[.pointer (some ⟨mb,0,none⟩),.int .i64 c,.int .u64 a] w fun e w' => e = .returned (.int .i64 0) ∧
   ∃ D',MemC w' N0 mb vs is vv vi ml (n + 1) D' sl (updM mk (lineOf a) (mkS (mk (lineOf a)) c (F (lineOf a)).length)) F lo st (fl + 1) fe /\ Keeps (fun k => k = mb ∨ k = ml) w w' /\ (∀ b,Maps.has D' (.int .u64 b) = Maps.has D (.int .u64 b)) := by
 have HAt := Lib.hid (fun W hm => mat_v W mb vs is vv vi ml lo st fl fe hm hp hnv a h0 h1)
 rw [he] at HAt
 have HTh := Lib.hid (mthere_v w mb vs is vv vi ml lo st fl fe h.m hp)
 have HCl := Lib.hid (client_v c hc)
 have c5 : w.cell? ⟨mb,5,none⟩ = some (.int .u64 fl) := h.m.c 5
 have fz5 := h.m.blk.frozen 5
 have hst : IntKind.u64.wrap (fl + 1) = fl + 1 := IntWalk.u64_in _ (by omega)
 have HH := Lib.hid h
 obtain ⟨a0,ha0⟩ : ∃ a0,lineOf a = a0 := ⟨_,rfl⟩
 rw [ha0] at hF ⊢
 have HA0 := Lib.hid ha0
 have HE := Lib.hid he
 have hcb : (c : Int) < 65 := by omega
 clear h he ha0
 go_enter Tryz.func126,Tryz.ntmps126
 go_wp2_with (fail)
 refine HTh.out.mono ?_
 rintro e w' ⟨rfl,rfl⟩
 go_wp2_with (fail)
 refine (HCl.out w).mono ?_
 rintro e w' ⟨rfl,rfl⟩
 go_wp2_with (fail)
 refine (HAt.out w HH.out.m).mono ?_
 rintro e w' ⟨rfl,rfl⟩
 go_wp2_with (fail)
 have k4 : Keeps (fun k => k = mb) w (w.setCell ⟨mb,5,none⟩ (.int .u64 (fl + 1))) := (Keeps.refl (fun k => k = mb) w).setCell (p := ⟨mb,5,none⟩) (.inl rfl) _
 have hm4 : MemB (w.setCell ⟨mb,5,none⟩ (.int .u64 (fl + 1))) mb vs is vv vi ml lo st (fl + 1) fe :=
  ⟨HH.out.m.blk.set 5 (.int .u64 (fl + 1)),ownsRow_setCell_other HH.out.m.v (a := ⟨mb,5,none⟩) HH.out.m.ne.1 (.int .u64 (fl + 1)),ownsRow_setCell_other HH.out.m.i (a := ⟨mb,5,none⟩) HH.out.m.ne.2 (.int .u64 (fl + 1))⟩
 have HM4 := Lib.hid hm4
 have HK4 := Lib.hid k4
 generalize w.setCell ⟨mb,5,none⟩ (.int .u64 (fl + 1)) = W4 at *
 have hmbN := HH.out.lt mb (.inl rfl)
 have ha0b : 0 <= a0 /\ a0 <= 18446744073709551615 := by rw [<- HA0.out];unfold lineOf;omega
 have HBg := Lib.hid (fun W => begin_v a h0 h1 W)
 rw [HA0.out] at HBg
 have hO4 : OwnL W4 ml n D := ownL_keeps HH.out.o k4 (fun e => HH.out.x.1 e)
 obtain ⟨s0,hs0e⟩ : ∃ s0,sl a0 = s0 := ⟨_,rfl⟩
 obtain ⟨f0,hf0⟩ : ∃ f0,mk a0 = f0 := ⟨_,rfl⟩
 have hE4 : hasL D a0 (.agg (lnCells s0 f0)) := by rw [<- hs0e,<- hf0];exact HH.out.e a0
 have hR4 : RowC W4 N0 s0 (F a0) := by
  rw [<- hs0e]
  exact (HH.out.r a0).keeps k4 (fun i hi e => by have := (HH.out.r a0).base i hi;omega)
 have HC6 := Lib.hid (show ∀ L,(StA 10 11 W4 s0 f0 L).cell? ⟨mb,2,none⟩ = some (.map (some ml)) from fun L => by
  rw [(StA.keeps (S := NoB) 10 11 W4 s0 f0 L).cell (p := ⟨mb,2,none⟩) hm4.blk.lt (fun h => h)];exact hm4.c 2)
 obtain ⟨hb,hhb⟩ : ∃ hb,Maps.has D (.int .u64 a0) = hb := ⟨_,rfl⟩
 have HL6 := Lib.hid (show ∀ L,(Instr.lookup 90 (.map (some ml)) (.int .u64 a0) true).run Tryz.prog (StA 10 11 W4 s0 f0 L) = .ok (.tuple #[.agg (lnCells s0 f0),.bool hb]) (StA 10 11 W4 s0 f0 L) from fun L => by
  rw [<- hhb]
  exact own_look_ok (ownL_keeps hO4 (StA.keeps (S := NoB) 10 11 W4 s0 f0 L) (fun h => h)) a0 ha0b.1 ha0b.2 hE4)
 have Hs1 := Lib.hid hR4.one
 have HO4 := Lib.hid hO4
 have HE4 := Lib.hid hE4
 have HR4 := Lib.hid hR4
 have HS0 := Lib.hid hs0e
 have HF0 := Lib.hid hf0
 have HA0b := Lib.hid ha0b
 have HHb := Lib.hid hhb
 clear hm4 k4 hO4 hE4 hR4 hs0e hf0 ha0b c5 fz5 hst hhb
 refine wp_region_vals [Is (.pointer (some ⟨mb,0,none⟩)),Is (.pointer (some ⟨mb,0,none⟩)),Is (.pointer (some ⟨mb,2,none⟩)),Is (.map (some ml)),Is (.int .u64 a),Is (.int .u64 a0),Is (.tuple #[.agg (lnCells s0 f0),.bool hb]),Is (.tuple #[.agg (lnCells s0 f0),.bool hb]),Is (.agg (lnCells s0 f0)),Is (.bool hb),Is (.pointer (some ⟨W4.heap.size,0,none⟩)),Any,Is (.bool hb)]
  (fun _ _ _ => True) (fun L W => W = StA 10 11 W4 s0 f0 L) (by kernel_rfl) (by kernel_rfl) (by kernel_rfl) ?hst ?h0 ⟨?o0,?o1,?o2,?o3,?o4,?o5,?o6,?o7,?o8,?o9,?o10,?o11,?o12,trivial⟩ ?he
 any_goals (intro L vs A W H hf hd K hK)
 case hst => repeat' (first | exact trivial | refine ⟨fun _ _ _ _ _ _ h _ => h,?_⟩)
 case h0 =>
  exact rfl
 case o0 => have e0 : A.tmps[0]?.getD undef = .pointer (some ⟨mb,0,none⟩) := H.old 0 (by kernel_rfl);go_simp;exact hK _ _ (trivial) rfl (H.glob)
 case o1 => have e35 := H.iz hd 0 35 rfl rfl rfl (by kernel_rfl);go_simp;exact hK _ _ (trivial) rfl (H.glob)
 case o2 => have e36 := H.iz hd 1 36 rfl rfl rfl (by kernel_rfl);go_simp;exact hK _ _ (trivial) rfl (H.glob)
 case o3 => have e37 := H.iz hd 2 37 rfl rfl rfl (by kernel_rfl);have d : W.cell? ⟨mb,2,none⟩ = some (.map (some ml)) := (by rw [H.glob];exact HC6.out L);go_simp;exact hK _ _ (trivial) rfl (H.glob)
 case o4 => have e2 : A.tmps[2]?.getD undef = .int .u64 a := H.old 2 (by kernel_rfl);go_simp;exact hK _ _ (trivial) rfl (H.glob)
 case o5 => have e39 := H.iz hd 4 39 rfl rfl rfl (by kernel_rfl);go_simp;refine (HBg.out W).mono ?_;rintro e w' ⟨rfl,rfl⟩;go_simp;exact hK _ _ trivial rfl H.glob
 case o6 => have e38 := H.iz hd 3 38 rfl rfl rfl (by kernel_rfl);have e40 := H.iz hd 5 40 rfl rfl rfl (by kernel_rfl);have hl : (Instr.lookup 90 (.map (some ml)) (.int .u64 a0) true).run Tryz.prog W = .ok (.tuple #[.agg (lnCells s0 f0),.bool hb]) W := (by rw [H.glob];exact HL6.out L);go_simp;exact hK _ _ (trivial) rfl (H.glob)
 case o7 => have e41 := H.iz hd 6 41 rfl rfl rfl (by kernel_rfl);go_simp;exact hK _ _ (trivial) rfl (H.glob)
 case o8 => have e34 := H.iz hd 7 34 rfl rfl rfl (by kernel_rfl);go_simp;exact hK _ _ (trivial) rfl (H.glob)
 case o9 => have e34 := H.iz hd 7 34 rfl rfl rfl (by kernel_rfl);go_simp;exact hK _ _ (trivial) rfl (H.glob)
 case o10 => have n8 := H.notYet 11 10 rfl hf (by kernel_rfl);have hW : W = W4.drew := (by have h9 := H.glob;unfold StA at h9;rw [n8,hf] at h9;exact h9);rw [if_pos (show Region.wanted _ _ = true from rfl)];refine wp_alloc_ln rfl ?_;subst hW;exact hK _ _ trivial rfl (by show _ = StA 10 11 W4 s0 f0 (lset L 10);unfold StA;rw [show lset L 10 11 = L 11 from rfl,n8];rfl)
 case o11 => have e9 := H.iz hd 10 9 rfl rfl rfl (by kernel_rfl);have e42 := H.iz hd 8 42 rfl rfl rfl (by kernel_rfl);have h7 : L 10 = true := deps_of' hd 10 (by kernel_rfl);have hW : W = W4.drew.alloc (.cells (lnCells (.slice none 0 0) (fun _ => 0)) 95) := (by have h9 := H.glob;unfold StA at h9;rw [hf,h7] at h9;exact h9);rw [if_pos (show Region.wanted _ _ = true from rfl)];subst hW;refine wp_store_ln _ _ rfl W4.heap.size s0 _ f0 _ Hs1.out (ev_tmp e9) (ev_tmp e42) (Blk.new W4.drew _ _) ?_;exact hK _ _ trivial trivial rfl
 case o12 => have e43 := H.iz hd 9 43 rfl rfl rfl (by kernel_rfl);go_simp;exact hK _ _ (trivial) rfl (H.glob)
 case he =>
  intro vs W hlen hv
  match vs,hlen,hv with
  | [x0_,x1_,x2_,x3_,x4_,x5_,x6_,x7_,x8_,x9_,x10_,x11_,x12_],_,hv =>
  obtain rfl := isv hv 0 rfl rfl;obtain rfl := isv hv 1 rfl rfl;obtain rfl := isv hv 2 rfl rfl;obtain rfl := isv hv 3 rfl rfl;obtain rfl := isv hv 4 rfl rfl;obtain rfl := isv hv 5 rfl rfl;obtain rfl := isv hv 6 rfl rfl;obtain rfl := isv hv 7 rfl rfl;obtain rfl := isv hv 8 rfl rfl;obtain rfl := isv hv 9 rfl rfl;obtain rfl := isv hv 10 rfl rfl;obtain rfl := isv hv 12 rfl rfl
  intro L hall hG
  clear hv hlen
  have HW := hG
  have h8 := hall 11 (by decide)
  unfold StA at HW
  rw [h8] at HW
  clear hG hall h8
  subst HW
  simp only [fill,if_true]
  have KX : Keeps NoB W4 ((W4.drew.alloc (.cells (lnCells (.slice none 0 0) (fun _ => 0)) 95)).setRow W4.heap.size (lnCells s0 f0)) := keeps_setRow ((Keeps.refl NoB W4).drew.alloc _) (.inr (Nat.le_refl _)) _
  have BX : Blk ((W4.drew.alloc (.cells (lnCells (.slice none 0 0) (fun _ => 0)) 95)).setRow W4.heap.size (lnCells s0 f0)) W4.heap.size (lnCells s0 f0) 95 := (Blk.new W4.drew _ _).row _
  obtain ⟨lb,hlb⟩ : ∃ lb,W4.heap.size = lb := ⟨_,rfl⟩
  rw [hlb] at KX BX ⊢
  generalize ((W4.drew.alloc (.cells (lnCells (.slice none 0 0) (fun _ => 0)) 95)).setRow lb (lnCells s0 f0)) = W6 at *
  have HR6 := Lib.hid (HR4.out.keeps KX (fun _ _ h => h))
  have HKX := Lib.hid KX
  have HBX := Lib.hid BX
  have HLB := Lib.hid hlb
  have hlN : N0 <= lb := by rw [<- hlb];exact Nat.le_trans hN0 HK4.out.size
  have hN6 : N0 <= W6.heap.size := Nat.le_trans hlN (Nat.le_of_lt BX.lt)
  have hmlN := HH.out.lt ml (.inr (.inl rfl))
  obtain ⟨A,C,hform,hlc,hlm⟩ := HR4.out.form
  have blkL : ∀ b i,(sl b).ownBlock = some i -> i < lb := fun b i hi => by
   rw [<- HLB.out]
   exact Nat.lt_of_lt_of_le ((HH.out.r b).lt hi) HK4.out.size
  have HBlk := Lib.hid blkL
  clear KX hlb hv blkL
  cases hb
  ·simp [Act.put]
   go_wp2_with (fail)
   go_ret
   have k46 : Keeps (fun k => k = mb) w W6 := HK4.out.trans (HKX.out.mono (fun _ _ h => h.elim))
   obtain ⟨z1,z2⟩ := hasL_none HE4.out HR4.out HHb.out
   refine ⟨rfl,D,⟨HM4.out.keptN HKX.out,(ownL_keeps HO4.out HKX.out (fun h => h)).mono (by omega),fun b => ?_,fun b => (HH.out.r b).keeps k46 (fun i hi e => by have := (HH.out.r b).base i hi;omega),HH.out.d,HH.out.lt,HH.out.x,HH.out.xv⟩,k46.mono (fun k _ h => .inl h),fun _ => rfl⟩
   unfold updM
   by_cases hb : b = a0
   ·subst hb
    rw [if_pos rfl,lnCells_congr _ (g := mk b) (fun i hi => by
     unfold mkS
     split
     ·rw [HF0.out,z2 i hi,z1];rfl
     ·rfl)]
    exact HH.out.e b
   ·rw [if_neg hb];exact HH.out.e b
  ·subst hform
   have d0 : W6.cell? ⟨lb,0,none⟩ = some (.slice A (F a0).length C) := by rw [BX.cell];exact lnCells_0 _ _
   have d1 : W6.cell? ⟨lb,1 + c,none⟩ = some (.int .i64 (f0 c)) := by rw [BX.cell,lnCells_at _ _ _ (by omega)]
   have f1 := BX.frozen (1 + c)
   obtain ⟨x,hx⟩ : ∃ x,((F a0).length : Int) = x := ⟨_,rfl⟩
   have hset := BX.set (1 + c) (.int .i64 x)
   rw [lnCells_setS _ _ _ _ (by omega)] at hset
   have HSet := Lib.hid hset
   have HKS := Lib.hid ((Keeps.refl (fun k => k = lb) W6).setCell (p := ⟨lb,1 + c,none⟩) (.inl rfl) (.int .i64 x))
   have HX := Lib.hid hx
   clear BX hset
   simp [Act.put]
   go_wp2_with (fail)
   clear hx d0 d1 f1
   generalize W6.setCell ⟨lb,1 + c,none⟩ (.int .i64 x) = W7 at *
   obtain ⟨s1,hs1'⟩ : ∃ s1,Value.slice A (F a0).length C = s1 := ⟨_,rfl⟩
   rw [hs1'] at HSet HS0 HR6 HR4 HE4 HBX HL6 Hs1
   obtain ⟨f9,hf9⟩ : ∃ f9,mkS f0 c x = f9 := ⟨_,rfl⟩
   rw [hf9] at HSet
   have HF9 := Lib.hid hf9
   have k47 : Keeps (fun k => N0 <= k) W4 W7 := (HKX.out.mono (fun _ _ h => h.elim)).trans (HKS.out.mono (fun k _ h => by omega))
   have HM7 := Lib.hid (HM4.out.kept k47 (fun i hi => by have := HH.out.lt i (by rcases hi with h | h | h;exact .inl h;exact .inr (.inr (.inl h));exact .inr (.inr (.inr h)));omega))
   have HO7 := Lib.hid (ownL_keeps HO4.out k47 (by omega))
   have HC7 := Lib.hid (show W7.cell? ⟨mb,2,none⟩ = some (.map (some ml)) from HM7.out.c 2)
   have HB7 := Lib.hid HSet.out
   obtain ⟨D',hD'⟩ : ∃ D',D.put (.int .u64 a0) (.held (.agg (lnCells s1 f9))) = D' := ⟨_,rfl⟩
   have HU7 := Lib.hid (World.ownsMap.update (HO7.out.drew) kA Tryz.underlying90 (by unfold maxLen;omega) (keyOf_int_mk Tryz.underlying39 (addr_wf HA0b.out.1 HA0b.out.2)) (val := .agg (lnCells s1 f9)) (d := .held (.agg (lnCells s1 f9))) (ps := []) rfl)
   rw [hD'] at HU7
   have HD' := Lib.hid hD'
   have HS1 := Lib.hid hs1'
   have HK47 := Lib.hid k47
   clear k47 hD' hs1' hf9
   refine wp_region_vals [Is (.pointer (some ⟨mb,0,none⟩)),Is (.pointer (some ⟨mb,0,none⟩)),Is (.pointer (some ⟨mb,2,none⟩)),Is (.map (some ml)),Is (.int .u64 a),Is (.int .u64 a0),Is (.agg (lnCells s1 f9)),Any]
    (fun _ _ _ => True) (fun L W => St8 W7 ml n D' L W) (by kernel_rfl) (by kernel_rfl) (by kernel_rfl) ?hst ?h0 ⟨?o0,?o1,?o2,?o3,?o4,?o5,?o6,?o7,trivial⟩ ?he
   any_goals (intro L vs A W H hf hd K hK)
   case hst => repeat' (first | exact trivial | refine ⟨fun _ _ _ _ _ _ h _ => h,?_⟩)
   case h0 =>
    exact ⟨fun _ => rfl,fun e => by cases e⟩
   case o0 => have e0 : A.tmps[0]?.getD undef = .pointer (some ⟨mb,0,none⟩) := H.old 0 (by kernel_rfl);go_simp;exact hK _ _ (trivial) rfl (H.glob)
   case o1 => have e51 := H.iz hd 0 51 rfl rfl rfl (by kernel_rfl);go_simp;exact hK _ _ (trivial) rfl (H.glob)
   case o2 => have e52 := H.iz hd 1 52 rfl rfl rfl (by kernel_rfl);go_simp;exact hK _ _ (trivial) rfl (H.glob)
   case o3 => have e53 := H.iz hd 2 53 rfl rfl rfl (by kernel_rfl);have n7 := H.notYet 7 3 rfl hf (by kernel_rfl);have d : W.cell? ⟨mb,2,none⟩ = some (.map (some ml)) := (by rw [H.glob.1 n7];exact HC7.out);go_simp;exact hK _ _ (trivial) rfl (H.glob)
   case o4 => have e2 : A.tmps[2]?.getD undef = .int .u64 a := H.old 2 (by kernel_rfl);go_simp;exact hK _ _ (trivial) rfl (H.glob)
   case o5 => have e55 := H.iz hd 4 55 rfl rfl rfl (by kernel_rfl);go_simp;refine (HBg.out W).mono ?_;rintro e w' ⟨rfl,rfl⟩;go_simp;exact hK _ _ trivial rfl H.glob
   case o6 => have e9 : A.tmps[9]?.getD undef = .pointer (some ⟨lb,0,none⟩) := H.old 9 (by kernel_rfl);have n7 := H.notYet 7 6 rfl hf (by kernel_rfl);rw [if_pos (show Region.wanted _ _ = true from rfl)];exact wp_load_ln _ rfl lb s1 f9 (ev_tmp e9) (by rw [H.glob.1 n7];exact HB7.out.drew) (hK _ _ trivial rfl H.glob)
   case o7 => have e54 := H.iz hd 3 54 rfl rfl rfl (by kernel_rfl);have e56 := H.iz hd 5 56 rfl rfl rfl (by kernel_rfl);have e57 := H.iz hd 6 57 rfl rfl rfl (by kernel_rfl);have hW := H.glob.1 hf;obtain ⟨w8,hrun,ho8,hg8⟩ := HU7.out;subst hW;go_simp;exact hK undef _ trivial trivial ⟨fun e => (by cases e),fun _ => ⟨ho8,hg8⟩⟩
   case he =>
    intro vs W hlen hv
    match vs,hlen,hv with
    | [x0_,x1_,x2_,x3_,x4_,x5_,x6_,x7_],_,hv =>
    obtain rfl := isv hv 0 rfl rfl;obtain rfl := isv hv 1 rfl rfl;obtain rfl := isv hv 2 rfl rfl;obtain rfl := isv hv 3 rfl rfl;obtain rfl := isv hv 4 rfl rfl;obtain rfl := isv hv 5 rfl rfl;obtain rfl := isv hv 6 rfl rfl
    intro L hall hG
    clear hv hlen
    have HW := Lib.hid (hG.2 (hall 7 (by decide)))
    clear hG hall
    simp only [fill,if_true]
    simp [Act.put]
    go_wp2_with (fail)
    go_ret
    have kU : Keeps (fun k => k = ml) W7 W := ((Keeps.refl (fun k => k = ml) W7).drew).grown HW.out.2 (fun k e => .inl (Option.some.inj e).symm)
    have rowU : ∀ b,RowC W N0 (sl b) (F b) := fun b => by
     have r4 := (HH.out.r b).keeps HK4.out (fun i hi e => by have := (HH.out.r b).base i hi;omega)
     have r6 := r4.keeps HKX.out (fun _ _ h => h)
     have r7 := r6.keeps HKS.out (fun i hi e => by have := HBlk.out b i hi;omega)
     exact r7.keeps kU (fun i hi e => by have := (HH.out.r b).base i hi;omega)
    refine ⟨rfl,D',⟨HM7.out.kept kU (fun i hi e => ?_),HW.out.1,fun b => ?_,rowU,HH.out.d,HH.out.lt,HH.out.x,HH.out.xv⟩,?_,fun b => ?_⟩
    ·subst e
     rcases hi with h | h | h
     ·exact HH.out.x.1 h
     ·exact HH.out.x.2.1 h
     ·exact HH.out.x.2.2 h
    ·rw [<- HD'.out]
     unfold hasL updM
     by_cases hb : b = a0
     ·subst hb
      rw [if_pos rfl,atKey_put_same (HO7.out.isMap) (show WideAt.IsKeyLit (.int .u64 b) from trivial),HS0.out,HF0.out,<- HF9.out,HX.out]
     ·rw [if_neg hb,atKey_put_other (by intro e;cases e;exact hb rfl)]
      exact HH.out.e b
    ·have k6 : Keeps NoB W6 W6 := Keeps.refl _ _
     refine ((HK4.out.mono (fun k _ h => .inl h)).trans' (HKX.out.trans' HKS.out (fun i hi e => by have := HLB.out;omega) ) (fun i _ h => h.elim)).trans (kU.mono (fun k _ h => .inr h))
    ·rw [<- HD'.out]
     by_cases hb : b = a0
     ·rw [hb,has_put_same HO7.out.isMap (show WideAt.IsKeyLit (.int .u64 a0) from trivial),HHb.out]
     ·rw [has_put_other (by intro e;cases e;exact hb rfl)]
end Go.Proofs.YtodgfbjjjgohgaaGreat
