/-
 A snapshot of a memory that nobody changes: where it stands behind so many steps;one step.
-/
import Derived.Test.YtodgfbjjjgohgaaGreatSnfZ
namespace Go.Proofs.YtodgfbjjjgohgaaGreat
open Go.RowKit
attribute [local go_sem] Oper.semAt_some
set_option linter.unusedVariables false

def sn0 (mv : Option Addr) (at_ : Int) : Sn := { mv := mv,at_ := at_,k := 0,last := false,a := fun _ => 0,b := fun _ => 0,high := 0,has := false,step := .nilFunc,over := false,e := 0,found := nd0 }
def snNew (sb : Nat) (mv : Option Addr) (at_ : Int) : Sn := snAnew sb (sn0 mv at_)
set_option maxRecDepth 100000 in
theorem new_v (mv : Option Addr) (a : Int) (w : World) : Calls Tryz.prog 71 #[.pointer mv,.int .u64 a] w fun e w' => e = .returned (.pointer (some ⟨w.heap.size,0,none⟩)) /\ Blk w' w.heap.size (snCells (snNew w.heap.size mv a)) 164 /\ Below w.heap.size w w' := by
 have HB := Lib.hid (Blk.new w (snCells (sn0 mv a)) 164)
 have HW := Lib.hid ((Below.refl w.heap.size w).alloc (Nat.le_refl _) (.cells (snCells (sn0 mv a)) 164))
 go_enter Tryz.func71,Tryz.ntmps71
 have HZ := Lib.hid (show (Tryz.zeroCells164.setIfInBounds 0 (.pointer mv)).setIfInBounds 1 (.int .u64 a) = snCells (sn0 mv a) by kernel_rfl)
 go_wp2_with (fail)
 rw [HZ.out]
 have HAn := Lib.hid (anew_v (sn0 mv a) w.heap.size _ HB.out)
 generalize w.alloc (.cells (snCells (sn0 mv a)) 164) = w1 at *
 generalize (Value.agg (snCells (sn0 mv a))) = zz
 refine HAn.out.mono ?_
 rintro e w' ⟨rfl,hb,hk⟩
 have HB' := Lib.hid hb
 have HW' := Lib.hid (HW.out.trans (show Below w.heap.size w1 w' from ⟨hk.os,hk.tape,hk.output,hk.size,fun k hlt => hk.block k (Nat.lt_of_lt_of_le hlt HW.out.size) (by omega)⟩))
 clear hb hk
 go_wp2_with (fail)
 go_ret
 exact ⟨rfl,HB'.out,HW'.out⟩

def nodeP (s : Sn) : Nd × Int := if s.over = false then (nd0,7) else if s.e ≠ 0 then (nd0,s.e) else (s.found,0)
theorem sn_rowN {w : World} {sb : Nat} {s : Sn} {t : TypeId} (h : Blk w sb (snCells s) t) : ∀ j v,(ndCells s.found)[j]? = some v -> w.cell? ⟨sb,57 + j,none⟩ = some v := fun j v hv => by
 have e : snCells s = ((snHd s ++ wdList s.a ++ wdList s.b ++ snMd s) ++ (ndCells s.found).toList).toArray := by simp [snCells,snList]
 rw [h.cell,e]
 have hl : (snHd s ++ wdList s.a ++ wdList s.b ++ snMd s).length = 57 := by simp [snHd,snMd,wdList_len]
 rw [List.getElem?_toArray,List.getElem?_append_right (by omega),hl,Nat.add_sub_cancel_left]
 simpa using hv
set_option maxRecDepth 100000 in
set_option maxHeartbeats 4000000 in
theorem node_v (s : Sn) (sb f : Nat) (w : World) (hb : Blk w sb (snCells s) 164) (hst : s.step = phV sb f) :
  Calls Tryz.prog 83 #[.pointer (some ⟨sb,0,none⟩)] w fun e w' => e = .returned (.tuple #[.agg (ndCells (nodeP s).1),.int .i64 (nodeP s).2]) /\ Below w.heap.size w w' := by
 have hq1 := nil_eq
 have hq2 := fn_eq f
 obtain ⟨nb,hnb⟩ : ∃ nb,w.heap.size = nb := ⟨_,rfl⟩
 have hlt := hb.lt
 have hne : sb ≠ nb := by omega
 have HB0 := Lib.hid (hb.alloc (.cells (ndCells nd0) 46))
 have HN0 := Lib.hid (show Blk (w.alloc (.cells (ndCells nd0) 46)) nb (ndCells nd0) 46 by rw [<- hnb];exact Blk.new w _ _)
 have HK0 := Lib.hid (show Below nb w (w.alloc (.cells (ndCells nd0) 46)) from (Below.refl nb w).alloc (by omega) _)
 have HNb := Lib.hid hnb
 obtain ⟨w0,hw0⟩ : ∃ w0,w.alloc (.cells (ndCells nd0) 46) = w0 := ⟨_,rfl⟩
 have HW0 := Lib.hid hw0
 rw [hw0] at HB0 HN0 HK0
 have c2 : w0.cell? ⟨sb,54,none⟩ = some (.func (.func f) #[.pointer (some ⟨sb,0,none⟩)] #[]) := (HB0.out.cell 54).trans ((sn_54 s).trans (by rw [hst];rfl))
 have c5 : w0.cell? ⟨sb,55,none⟩ = some (.bool s.over) := (HB0.out.cell 55).trans (sn_55 s)
 have c6 : w0.cell? ⟨sb,56,none⟩ = some (.int .i64 s.e) := (HB0.out.cell 56).trans (sn_56 s)
 rw [hnb]
 obtain ⟨r,hr⟩ : ∃ r,nodeP s = r := ⟨_,rfl⟩
 rw [hr]
 unfold nodeP at hr
 obtain ⟨ov,hov⟩ : ∃ ov,s.over = ov := ⟨_,rfl⟩
 obtain ⟨b5,hb5⟩ : ∃ b5,s.e = b5 := ⟨_,rfl⟩
 rw [hov,hb5] at hr
 rw [hov] at c5
 rw [hb5] at c6
 clear hb hst hnb hw0 hov hb5
 have Hne := Lib.hid (And.intro hne hlt)
 clear hne hlt
 have HR := Lib.hid hr
 clear hr
 go_enter Tryz.func83,Tryz.ntmps83
 go_upto_region 1 with ((with_reducible refine wpList_alloc_ndAt (o := ⟨some 2,_,_,_,_,_⟩) rfl rfl nb ?hz ?_;(case hz => exact HNb.out));rw [HW0.out])
 cases ov with
 | false =>
  rw [if_pos rfl] at HR
  obtain rfl := HR.out
  clear HR
  go_wp2_with ((with_reducible refine wpList_store_ndc (o := ⟨none,.store 46 (.tmp 2) (.tmp 21),_,_,_,_⟩) ?hgc (.tmp 2) (.tmp 21) ?hoc nb ?csc nd0 nd0 ?hxc ?hyc ?hbc ?hmc ?_);(case hgc => rfl);(case hoc => rfl);(case hxc => rfl);(case hyc => rfl);(case hmc => rfl);(case hbc => exact HN0.out))
  (try simp only [Exit.inBlock,Exit.then])
  refine bodyPost_ret (results_nd (fn := Tryz.f83) rfl _ nb nd0 rfl (HN0.out.row _)) rfl ?_
  exact ⟨rfl,below_setRow HK0.out (Nat.le_refl _) _⟩
 | true =>
  rw [if_neg (by decide)] at HR
  by_cases he : b5 = 0
  ·rw [if_neg (fun h => h he)] at HR
   obtain rfl := HR.out
   subst he
   clear HR
   go_wp2_with (first
    | ((with_reducible refine wpList_load_part (o := ⟨some 36,.load 46 (.tmp 35),_,_,_,_⟩) ?hg 46 (.tmp 35) ?ho sb 57 ?hx (ndCells s.found) ?dd ?hc ?hu ?hd ?hi ?_);(case hg => rfl);(case ho => rfl);(case hx => rfl);(case hc => exact sn_rowN HB0.out);(case hu => exact Tryz.underlying46);(case hd => rfl);(case hi => exact info27 s.found))
    | ((with_reducible refine wpList_store_ndc (o := ⟨none,.store 46 (.tmp 2) (.tmp 36),_,_,_,_⟩) ?hgc (.tmp 2) (.tmp 36) ?hoc nb (ndCells s.found) s.found nd0 ?hxc ?hyc ?hbc ?hmc ?_);(case hgc => rfl);(case hoc => rfl);(case hxc => exact ev_tmp (by simp [Act.put]));(case hyc => exact ev_tmp (by simp [Act.put]));(case hmc => rfl);(case hbc => exact HN0.out)))
   (try simp only [Exit.inBlock,Exit.then])
   refine bodyPost_ret (results_nd (fn := Tryz.f83) rfl _ nb s.found rfl (HN0.out.row _)) rfl ?_
   exact ⟨rfl,below_setRow HK0.out (Nat.le_refl _) _⟩
  ·rw [if_pos he] at HR
   obtain rfl := HR.out
   have hbn : (b5 != 0) = true := bne_iff_ne.2 he
   clear HR he
   go_wp2_with (fail)
   obtain ⟨W6,hW6⟩ : ∃ W6,W6 = w0 := ⟨_,rfl⟩
   have HN6 := Lib.hid (show Blk W6 nb (ndCells nd0) 46 by rw [hW6];exact HN0.out)
   have HC6 := Lib.hid (show sb < W6.heap.size /\ ¬ sb = nb /\ W6.cell? ⟨sb,56,none⟩ = some (.int .i64 b5) by rw [hW6];exact ⟨HB0.out.lt,Hne.out.1,c6⟩)
   have HK6 := Lib.hid (show Below nb w W6 by rw [hW6];exact HK0.out)
   rw [<- hW6]
   clear hW6 c6 c5 c2 hbn
   refine wp_region_vals [Is (.agg (ndCells nd0)),Is (.pointer (some ⟨sb,0,none⟩)),Is (.pointer (some ⟨sb,0,none⟩)),Is (.pointer (some ⟨sb,56,none⟩)),Is (.int .i64 b5),Any,Is (.int .i64 b5)]
    (fun _ _ _ => True) (fun _ W => Keeps (fun i => i = nb) W6 W /\ Blk W nb (ndCells nd0) 46) (by kernel_rfl) (by kernel_rfl) (by kernel_rfl) ?hst ?h0 ⟨?o0,?o1,?o2,?o3,?o4,?o5,?o6,trivial⟩ ?he
   any_goals (intro L vs A W H hf hd K hK)
   case hst => repeat' (first | exact trivial | refine ⟨fun _ _ _ _ _ _ h _ => h,?_⟩)
   case h0 =>
    exact ⟨(Keeps.refl _ _).drew,HN6.out.drew⟩
   case o0 => go_simp;exact hK _ _ (trivial) rfl (H.glob)
   case o1 => have e0 : A.tmps[0]?.getD undef = .pointer (some ⟨sb,0,none⟩) := H.old 0 (by kernel_rfl);go_simp;exact hK _ _ (trivial) rfl (H.glob)
   case o2 => have e29 := H.iz hd 1 29 rfl rfl rfl (by kernel_rfl);go_simp;exact hK _ _ (trivial) rfl (H.glob)
   case o3 => have e30 := H.iz hd 2 30 rfl rfl rfl (by kernel_rfl);go_simp;exact hK _ _ (trivial) rfl (H.glob)
   case o4 => have e31 := H.iz hd 3 31 rfl rfl rfl (by kernel_rfl);have d : W.cell? ⟨sb,56,none⟩ = some (.int .i64 b5) := (H.glob.1.cell (p := ⟨sb,56,none⟩) HC6.out.1 HC6.out.2.1).trans HC6.out.2.2;go_simp;exact hK _ _ (trivial) rfl (H.glob)
   case o5 => have e2 : A.tmps[2]?.getD undef = .pointer (some ⟨nb,0,none⟩) := H.old 2 (by kernel_rfl);have e28 := H.iz hd 0 28 rfl rfl rfl (by kernel_rfl);exact wp_store_nd (.tmp 2) (.tmp 28) rfl nb nd0 nd0 (ev_tmp e2) (ev_tmp e28) H.glob.2 (hK undef _ trivial trivial ⟨keeps_setRow H.glob.1 (.inl rfl) _,H.glob.2.row _⟩)
   case o6 => have e32 := H.iz hd 4 32 rfl rfl rfl (by kernel_rfl);go_simp;exact hK _ _ (trivial) rfl (H.glob)
   case he =>
    intro vs W hlen hv
    match vs,hlen,hv with
    | [x0_,x1_,x2_,x3_,x4_,x5_,x6_],_,hv =>
    obtain rfl := isv hv 0 rfl rfl;obtain rfl := isv hv 1 rfl rfl;obtain rfl := isv hv 2 rfl rfl;obtain rfl := isv hv 3 rfl rfl;obtain rfl := isv hv 4 rfl rfl;obtain rfl := isv hv 6 rfl rfl
    intro L hall hG
    clear hv hlen
    have HG := Lib.hid hG
    clear hG hall
    simp only [fill,if_true]
    simp [Act.put]
    go_wp2_with (fail)
    (try simp only [Exit.inBlock,Exit.then])
    refine bodyPost_ret (results_nd (fn := Tryz.f83) rfl _ nb nd0 rfl HG.out.2) rfl ?_
    exact ⟨rfl,HK6.out.trans (show Below nb W6 W from ⟨HG.out.1.os,HG.out.1.tape,HG.out.1.output,HG.out.1.size,fun k hk => HG.out.1.block k (Nat.lt_of_lt_of_le hk (by have := HN6.out.lt;omega)) (by omega)⟩)⟩
end Go.Proofs.YtodgfbjjjgohgaaGreat
namespace Go.Proofs.YtodgfbjjjgohgaaGreat
open Go.RowKit
attribute [local go_sem] Oper.semAt_some
set_option linter.unusedVariables false

def highP (s : Sn) : Int × Bool := if (nodeP s).2 = 0 then (if s.has = true then (s.high,true) else (0,false)) else (0,false)
set_option maxRecDepth 100000 in
set_option maxHeartbeats 4000000 in
theorem high_v (s : Sn) (sb f : Nat) (w : World) (hb : Blk w sb (snCells s) 164) (hst : s.step = phV sb f) :
  Calls Tryz.prog 84 #[.pointer (some ⟨sb,0,none⟩)] w fun e w' => e = .returned (.tuple #[.int .u64 (highP s).1,.bool (highP s).2]) /\ Below w.heap.size w w' := by
 have HNo := Lib.hid (node_v s sb f w hb hst)
 have HB := Lib.hid hb
 obtain ⟨r,hr⟩ : ∃ r,highP s = r := ⟨_,rfl⟩
 rw [hr]
 unfold highP at hr
 obtain ⟨nn,hnn⟩ : ∃ nn,nodeP s = nn := ⟨_,rfl⟩
 rw [hnn] at hr HNo
 obtain ⟨n1,n2⟩ := nn
 have HR := Lib.hid hr
 clear hb hst hnn hr
 go_enter Tryz.func84,Tryz.ntmps84
 go_wp2_with (fail)
 refine HNo.out.mono ?_
 rintro e w1 ⟨rfl,hB⟩
 have hb1 := HB.out.kept (Keeps.of_below' hB) (fun h => h)
 have hlt := hb1.lt
 have HNw := Lib.hid (Blk.new w1 (ndCells nd0) 46)
 have hne : sb ≠ w1.heap.size := by omega
 have hb2 : Blk ((w1.alloc (.cells (ndCells nd0) 46)).setRow w1.heap.size (ndCells n1)) sb (snCells s) 164 := (hb1.alloc _).rowOther _ hne
 have HK2 := Lib.hid (below_setRow (hB.alloc hB.size (.cells (ndCells nd0) 46)) hB.size (ndCells n1))
 obtain ⟨W2,hW2⟩ : ∃ W2,(w1.alloc (.cells (ndCells nd0) 46)).setRow w1.heap.size (ndCells n1) = W2 := ⟨_,rfl⟩
 have HW2 := Lib.hid hW2
 rw [hW2] at hb2 HK2
 have d53 := (hb2.cell 53).trans (sn_53 s)
 have d52 := (hb2.cell 52).trans (sn_52 s)
 obtain ⟨hs,hhs⟩ : ∃ hs,s.has = hs := ⟨_,rfl⟩
 rw [hhs] at HR d53
 clear hb1 hlt hne hb2 hW2 hhs hB
 go_upto_region 2 with (first
  | (with_reducible refine wpList_alloc_nd (o := ⟨some 4,_,_,_,_,_⟩) rfl rfl ?_)
  | ((with_reducible refine wpList_store_ndc (o := ⟨none,.store 46 (.tmp 4) (.tmp 9),_,_,_,_⟩) ?hgc (.tmp 4) (.tmp 9) ?hoc w1.heap.size (ndCells n1) n1 nd0 ?hxc ?hyc ?hbc ?hmc ?_);(case hgc => rfl);(case hoc => rfl);(case hxc => exact ev_tmp (by simp [Act.put]));(case hyc => exact ev_tmp (by simp [Act.put]));(case hmc => rfl);(case hbc => exact HNw.out);rw [HW2.out];simp [Act.put]))
 by_cases h0 : n2 = 0
 ·subst h0
  rw [if_pos rfl] at HR
  cases hs with
  | true =>
   rw [if_pos rfl] at HR
   obtain rfl := HR.out
   clear HR
   go_wp2_with (fail)
   go_ret2
   exact ⟨rfl,HK2.out⟩
  | false =>
   rw [if_neg (by decide)] at HR
   obtain rfl := HR.out
   clear HR
   go_wp2_with (fail)
   go_ret2
   exact ⟨rfl,HK2.out⟩
 ·have hbn : (n2 != 0) = true := bne_iff_ne.2 h0
  rw [if_neg h0] at HR
  obtain rfl := HR.out
  clear HR h0
  go_wp2_with (fail)
  go_ret2
  exact ⟨rfl,HK2.out⟩
end Go.Proofs.YtodgfbjjjgohgaaGreat
namespace Go.Proofs.YtodgfbjjjgohgaaGreat
open Go.RowKit
set_option linter.unusedVariables false

/-! . -/
def pthB (W : Nat -> Int) (i : Nat) : Bool := decide (i <= 2) || decide (i = 4) || (decide (8 <= i) && decide (i < 24) && (List.range i).all (fun j => decide (j < 9) || decide (j % 2 = 0) || decide (W j ≠ 0)))
theorem pthB_iff (W : Nat -> Int) (i : Nat) : pthB W i = true ↔ (i <= 2 ∨ i = 4 ∨ (8 <= i /\ i < 24 /\ ∀ j,j < i -> 9 <= j -> j % 2 = 1 -> W j ≠ 0)) := by
 unfold pthB
 simp only [Bool.or_eq_true,Bool.and_eq_true,decide_eq_true_eq,List.all_eq_true,List.mem_range]
 constructor
 ·rintro ((h | h) | ⟨⟨h1,h2⟩,h3⟩)
  ·exact .inl h
  ·exact .inr (.inl h)
  ·refine .inr (.inr ⟨h1,h2,fun j hj h9 ho => ?_⟩)
   rcases h3 j hj with (h | h) | h
   ·omega
   ·omega
   ·exact h
 ·rintro (h | h | ⟨h1,h2,h3⟩)
  ·exact .inl (.inl h)
  ·exact .inl (.inr h)
  ·refine .inr ⟨⟨h1,h2⟩,fun j hj => ?_⟩
   by_cases h9 : j < 9
   ·exact .inl (.inl h9)
   ·by_cases ho : j % 2 = 0
    ·exact .inl (.inr ho)
    ·exact .inr (h3 j hj (by omega) (by omega))
theorem pth_next {W : Nat -> Int} {k : Nat} (hk : pthB W k = true) (hq : 0 <= aftP k (W k)) : ∃ q : Nat,aftP k (W k) = (q : Int) /\ q < 24 /\ k < q /\ pthB W q = true /\ ∀ i,(pthB W i = true /\ i < q) ↔ ((pthB W i = true /\ i < k) ∨ i = k) := by
 have h := (pthB_iff W k).1 hk
 unfold aftP at hq ⊢
 by_cases c1 : k = 2
 ·subst c1
  refine ⟨4,rfl,by decide,by decide,(pthB_iff W 4).2 (.inr (.inl rfl)),fun i => ?_⟩
  constructor
  ·rintro ⟨h1,h2⟩
   rcases (pthB_iff W i).1 h1 with h | h | h
   ·by_cases e : i = 2;exact .inr e;exact .inl ⟨h1,by omega⟩
   ·omega
   ·omega
  ·rintro (⟨h1,h2⟩ | rfl)
   ·exact ⟨h1,by omega⟩
   ·exact ⟨hk,by omega⟩
 rw [if_neg c1] at hq ⊢
 by_cases c2 : k = 4
 ·subst c2
  refine ⟨8,rfl,by decide,by decide,(pthB_iff W 8).2 (.inr (.inr ⟨by omega,by omega,fun j hj h9 => by omega⟩)),fun i => ?_⟩
  constructor
  ·rintro ⟨h1,h2⟩
   rcases (pthB_iff W i).1 h1 with h | h | h
   ·exact .inl ⟨h1,by omega⟩
   ·exact .inr h
   ·omega
  ·rintro (⟨h1,h2⟩ | rfl)
   ·exact ⟨h1,by omega⟩
   ·exact ⟨hk,by omega⟩
 rw [if_neg c2] at hq ⊢
 by_cases c3 : k < 2
 ·rw [if_pos c3] at hq ⊢
  refine ⟨k + 1,by omega,by omega,by omega,(pthB_iff W _).2 (.inl (by omega)),fun i => ?_⟩
  constructor
  ·rintro ⟨h1,h2⟩
   by_cases e : i = k;exact .inr e;exact .inl ⟨h1,by omega⟩
  ·rintro (⟨h1,h2⟩ | rfl)
   ·exact ⟨h1,by omega⟩
   ·exact ⟨hk,by omega⟩
 rw [if_neg c3] at hq ⊢
 by_cases c4 : k % 2 = 1 /\ (W k = 0 ∨ k = 23)
 ·rw [if_pos c4] at hq;omega
 rw [if_neg c4] at hq ⊢
 have h8 : 8 <= k /\ k < 24 /\ ∀ j,j < k -> 9 <= j -> j % 2 = 1 -> W j ≠ 0 := by
  rcases h with h | h | h
  ·omega
  ·omega
  ·exact h
 have hk23 : k ≠ 23 := fun e => c4 ⟨by omega,.inr e⟩
 refine ⟨k + 1,by omega,by omega,by omega,(pthB_iff W _).2 (.inr (.inr ⟨by omega,by omega,fun j hj h9 ho => ?_⟩)),fun i => ?_⟩
 ·by_cases e : j = k
  ·subst e;exact fun h0 => c4 ⟨ho,.inl h0⟩
  ·exact h8.2.2 j (by omega) h9 ho
 ·constructor
  ·rintro ⟨h1,h2⟩
   by_cases e : i = k;exact .inr e;exact .inl ⟨h1,by omega⟩
  ·rintro (⟨h1,h2⟩ | rfl)
   ·exact ⟨h1,by omega⟩
   ·exact ⟨hk,by omega⟩
theorem pth_last {W : Nat -> Int} {k : Nat} (hk : pthB W k = true) (hk24 : k < 24) (hq : ¬ 0 <= aftP k (W k)) : 8 <= k /\ ∀ i,(pthB W i = true /\ i < 24) ↔ ((pthB W i = true /\ i < k) ∨ i = k) := by
 have h := (pthB_iff W k).1 hk
 unfold aftP at hq
 by_cases c1 : k = 2
 ·rw [if_pos c1] at hq;omega
 rw [if_neg c1] at hq
 by_cases c2 : k = 4
 ·rw [if_pos c2] at hq;omega
 rw [if_neg c2] at hq
 by_cases c3 : k < 2
 ·rw [if_pos c3] at hq;omega
 rw [if_neg c3] at hq
 by_cases c4 : k % 2 = 1 /\ (W k = 0 ∨ k = 23)
 ·refine ⟨by omega,fun i => ?_⟩
  constructor
  ·rintro ⟨h1,h2⟩
   by_cases e : i = k
   ·exact .inr e
   ·refine .inl ⟨h1,?_⟩
    rcases (pthB_iff W i).1 h1 with h | h | h
    ·omega
    ·omega
    ·rcases Nat.lt_or_ge i k with hlt | hge
     ·exact hlt
     ·rcases c4.2 with h0 | h0
      ·exact absurd h0 (h.2.2 k (by omega) (by omega) c4.1)
      ·omega
  ·rintro (⟨h1,h2⟩ | rfl)
   ·exact ⟨h1,by omega⟩
   ·exact ⟨hk,hk24⟩
 ·rw [if_neg c4] at hq;omega
def rdW (W : Nat -> Int) (k : Nat) : Nat -> Int := fun i => if i = 3 ∨ (pthB W i = true /\ i < k) then W i else 0
theorem pth_not3 (W : Nat -> Int) : pthB W 3 = false := by
 cases h : pthB W 3
 ·rfl
 ·have := (pthB_iff W 3).1 h;omega
theorem rdW_set {W : Nat -> Int} {k q : Nat} (h : ∀ i,(pthB W i = true /\ i < q) ↔ ((pthB W i = true /\ i < k) ∨ i = k)) : wset (rdW W k) k (W k) = rdW W q := by
 funext i
 unfold wset rdW
 by_cases e : i = k
 ·subst e
  rw [if_pos rfl,if_pos (.inr ((h i).2 (.inr rfl)))]
 ·rw [if_neg e]
  by_cases c : i = 3 ∨ (pthB W i = true /\ i < k)
  ·rw [if_pos c,if_pos (by rcases c with c | c;exact .inl c;exact .inr ((h i).2 (.inl c)))]
  ·rw [if_neg c,if_neg (fun c2 => c (by rcases c2 with c2 | c2;exact .inl c2;rcases (h i).1 c2 with c3 | c3;exact .inr c3;exact absurd c3 e))]
theorem rdW_at {W : Nat -> Int} {k i : Nat} (hp : pthB W i = true) (hi : i < k) : rdW W k i = W i := if_pos (.inr ⟨hp,hi⟩)
theorem rdW_3 (W : Nat -> Int) (k : Nat) : rdW W k 3 = W 3 := if_pos (.inl rfl)
def idxK (k : Nat) : Nat := if k <= 2 then k else if k = 4 then 3 else k - 4
theorem idx_next {W : Nat -> Int} {k q : Nat} (hk : pthB W k = true) (hq : aftP k (W k) = (q : Int)) : idxK q = idxK k + 1 := by
 have h := (pthB_iff W k).1 hk
 unfold aftP at hq
 unfold idxK
 by_cases c1 : k = 2
 ·subst c1;rw [if_pos rfl] at hq;obtain rfl : q = 4 := by omega
  decide
 rw [if_neg c1] at hq
 by_cases c2 : k = 4
 ·subst c2;rw [if_pos rfl] at hq;obtain rfl : q = 8 := by omega
  decide
 rw [if_neg c2] at hq
 by_cases c3 : k < 2
 ·rw [if_pos c3] at hq;obtain rfl : q = k + 1 := by omega
  rw [if_pos (by omega),if_pos (by omega)]
 rw [if_neg c3] at hq
 by_cases c4 : k % 2 = 1 /\ (W k = 0 ∨ k = 23)
 ·rw [if_pos c4] at hq;omega
 ·rw [if_neg c4] at hq;obtain rfl : q = k + 1 := by omega
  rw [if_neg (by omega),if_neg (by omega),if_neg (by omega),if_neg (by omega)]
  omega
theorem idx_le {k : Nat} (h : k < 24) : idxK k <= 19 := by unfold idxK;split;omega;split;omega;omega

/-! . -/
def wdM (vw : List Int) (a : Int) (i : Nat) : Int := ldW vw (wrdA a i)
def erM (vw : List Int) (a : Int) (i : Nat) : Int := atE vw.length (wrdA a i)
structure SnB (mv : Option Addr) (a : Int) (s : Sn) : Prop where
 mv : s.mv = mv
 at_ : s.at_ = a
 over : s.over = false
structure SnR (vw : List Int) (a : Int) (s : Sn) (sb kn : Nat) : Prop where
 step : s.step = phV sb 92
 k : s.k = (kn : Int)
 lt : kn < 24
 p : pthB (wdM vw a) kn = true
 has : s.has = false
 e3 : erM vw a 3 = 0
def SnI (sb : Nat) (mv : Option Addr) (vw : List Int) (a : Int) (i : Nat) (s : Sn) : Prop :=
 SnB mv a s /\ (
  (i = 0 /\ s.step = phV sb 88 /\ s.a = (fun _ => 0) /\ s.b = (fun _ => 0) /\ s.k = 0 /\ s.last = false /\ s.has = false) ∨
  (∃ kn,SnR vw a s sb kn /\ s.last = false /\ s.a = rdW (wdM vw a) kn /\ s.b = rdW (wdM vw a) 0 /\ (∀ j,pthB (wdM vw a) j = true -> j < kn -> erM vw a j = 0) /\ i <= 1 + idxK kn) ∨
  (∃ kn,SnR vw a s sb kn /\ s.last = true /\ s.a = rdW (wdM vw a) 24 /\ s.b = rdW (wdM vw a) kn /\ (∀ j,pthB (wdM vw a) j = true -> j < 24 -> erM vw a j = 0) /\ i <= 21 + idxK kn) ∨
  (s.step = phV sb 95 /\ s.a = rdW (wdM vw a) 24 /\ s.b = rdW (wdM vw a) 24 /\ s.has = false /\ erM vw a 3 = 0 /\ (∀ j,pthB (wdM vw a) j = true -> j < 24 -> erM vw a j = 0) /\ wdM vw a 2 ≠ 0 /\ i <= 41) ∨
  (s.step = phV sb 96 /\ s.a = rdW (wdM vw a) 24 /\ s.b = rdW (wdM vw a) 24 /\ s.has = decide (wdM vw a 2 ≠ 0) /\ (wdM vw a 2 ≠ 0 -> s.high = ldW vw (wrdA (wdM vw a 2) 1) /\ atE vw.length (wrdA (wdM vw a 2) 1) = 0) /\ erM vw a 3 = 0 /\ (∀ j,pthB (wdM vw a) j = true -> j < 24 -> erM vw a j = 0) /\ i <= 42))
structure SnD (sb : Nat) (vw : List Int) (a : Int) (er : Int) (s : Sn) : Prop where
 over : s.over = true
 e : s.e = er
 step : ∃ f,s.step = phV sb f
 res : (er = 3 /\ (erM vw a 3 = 3 ∨ (∃ j,pthB (wdM vw a) j = true /\ j < 24 /\ erM vw a j = 3) ∨ (wdM vw a 2 ≠ 0 /\ atE vw.length (wrdA (wdM vw a 2) 1) = 3))) ∨
  (er = (ofV (rdW (wdM vw a) 24)).2 /\ s.found = (ofV (rdW (wdM vw a) 24)).1 /\ s.has = decide (wdM vw a 2 ≠ 0) /\ (wdM vw a 2 ≠ 0 -> s.high = ldW vw (wrdA (wdM vw a 2) 1)))
def StepR (sb : Nat) (mv : Option Addr) (vw : List Int) (a : Int) (i : Nat) (d : Bool) (er : Int) (s : Sn) : Prop := (d = false /\ er = 0 /\ SnI sb mv vw a (i + 1) s) ∨ (d = true /\ SnD sb vw a er s)
theorem rdW_zero (W : Nat -> Int) : wset (fun _ => 0) 3 (W 3) = rdW W 0 := by
 funext i
 unfold wset rdW
 by_cases e : i = 3
 ·subst e;rw [if_pos rfl,if_pos (.inl rfl)]
 ·rw [if_neg e,if_neg (by rintro (h | ⟨_,h⟩);exact e h;omega)]
theorem rdW_u64 {vw : List Int} (hu : U64s vw) (a : Int) (k i : Nat) : 0 <= rdW (wdM vw a) k i /\ rdW (wdM vw a) k i <= 18446744073709551615 := by
 unfold rdW
 split
 ·exact ldW_u64 hu _
 ·decide
theorem eqWd_self (f : Nat -> Int) : eqWd f f = true := by
 unfold eqWd
 rw [List.all_eq_true]
 intro i _
 exact beq_self_eq_true _
section
variable {sb : Nat} {mv : Option Addr} {vw : List Int} {a : Int} {i : Nat} {s : Sn}
theorem stepr_ct (hB : SnB mv a s) (hi : i = 0) (ha : s.a = (fun _ => 0)) (hb : s.b = (fun _ => 0)) (hk : s.k = 0) (hl : s.last = false) (hh : s.has = false) :
  StepR sb mv vw a i (false || erM vw a 3 != 0) (erM vw a 3) (snOver (snCounts sb vw s) false (erM vw a 3)) := by
 rcases atE_or vw.length (wrdA a 3) with e | e
 ·have e0 : erM vw a 3 = 0 := e
  refine .inl ⟨by rw [e0];decide,e0,⟨hB.mv,hB.at_,by rw [e0];rfl⟩,.inr (.inl ⟨0,⟨rfl,hk,by decide,(pthB_iff _ 0).2 (.inl (by decide)),hh,e0⟩,hl,?_,?_,fun j _ h => absurd h (by omega),by subst hi;decide⟩)⟩
  ·show wset s.a 3 (ldW vw (wrdA s.at_ 3)) = _
   rw [ha,hB.at_];exact rdW_zero (wdM vw a)
  ·show wset s.b 3 (ldW vw (wrdA s.at_ 3)) = _
   rw [hb,hB.at_];exact rdW_zero (wdM vw a)
 ·have e0 : erM vw a 3 = 3 := e
  exact .inr ⟨by rw [e0];decide,⟨by rw [e0];rfl,rfl,⟨_,rfl⟩,.inl ⟨e0,.inl e0⟩⟩⟩
theorem stepr_rd1 {kn : Nat} (hB : SnB mv a s) (hR : SnR vw a s sb kn) (hl : s.last = false) (ha : s.a = rdW (wdM vw a) kn) (hb : s.b = rdW (wdM vw a) 0) (hE : ∀ j,pthB (wdM vw a) j = true -> j < kn -> erM vw a j = 0) (hi : i <= 1 + idxK kn) :
  StepR sb mv vw a i (false || erM vw a kn != 0) (erM vw a kn) (snOver (snReads sb vw s kn) false (erM vw a kn)) := by
 have hx := idx_le hR.lt
 rcases atE_or vw.length (wrdA a kn) with e | e
 ·have e0 : erM vw a kn = 0 := e
  have hsr : snReads sb vw s kn = snGo sb { s with a := wset s.a kn (wdM vw a kn) } kn (wdM vw a kn) := by
   unfold snReads
   rw [hB.at_,if_pos e,hl,if_neg (by decide)];rfl
  rw [hsr]
  unfold snGo
  by_cases hq : 0 <= aftP kn (wdM vw a kn)
  ·obtain ⟨q,hqe,hq24,hkq,hqp,hqs⟩ := pth_next hR.p hq
   rw [if_pos hq,hqe]
   refine .inl ⟨by rw [e0];decide,e0,⟨hB.mv,hB.at_,by rw [e0];rfl⟩,.inr (.inl ⟨q,⟨hR.step,rfl,hq24,hqp,hR.has,hR.e3⟩,hl,?_,hb,fun j hj hjq => ?_,by rw [idx_next hR.p hqe];omega⟩)⟩
   ·show wset s.a kn (wdM vw a kn) = _
    rw [ha];exact rdW_set hqs
   ·rcases (hqs j).1 ⟨hj,hjq⟩ with h | h
    ·exact hE j h.1 h.2
    ·rw [h];exact e0
  ·obtain ⟨h8,hqs⟩ := pth_last hR.p hR.lt hq
   rw [if_neg hq,if_pos hl]
   refine .inl ⟨by rw [e0];decide,e0,⟨hB.mv,hB.at_,by rw [e0];rfl⟩,.inr (.inr (.inl ⟨0,⟨hR.step,rfl,by decide,(pthB_iff _ 0).2 (.inl (by decide)),hR.has,hR.e3⟩,rfl,?_,hb,fun j hj hjq => ?_,by show i + 1 <= 21 + 0;omega⟩))⟩
   ·show wset s.a kn (wdM vw a kn) = _
    rw [ha];exact rdW_set hqs
   ·rcases (hqs j).1 ⟨hj,hjq⟩ with h | h
    ·exact hE j h.1 h.2
    ·rw [h];exact e0
 ·have e0 : erM vw a kn = 3 := e
  have hsr : snReads sb vw s kn = s := by
   unfold snReads
   rw [hB.at_,if_neg (by rw [e];decide)]
  rw [hsr]
  exact .inr ⟨by rw [e0];decide,⟨by rw [e0];rfl,rfl,⟨_,hR.step⟩,.inl ⟨e0,.inr (.inl ⟨kn,hR.p,hR.lt,e0⟩)⟩⟩⟩
theorem stepr_rd2 {kn : Nat} (hB : SnB mv a s) (hR : SnR vw a s sb kn) (hl : s.last = true) (ha : s.a = rdW (wdM vw a) 24) (hb : s.b = rdW (wdM vw a) kn) (hE : ∀ j,pthB (wdM vw a) j = true -> j < 24 -> erM vw a j = 0) (hi : i <= 21 + idxK kn) :
  StepR sb mv vw a i (false || erM vw a kn != 0) (erM vw a kn) (snOver (snReads sb vw s kn) false (erM vw a kn)) := by
 have hx := idx_le hR.lt
 have e0 : erM vw a kn = 0 := hE kn hR.p hR.lt
 have hsr : snReads sb vw s kn = snGo sb { s with b := wset s.b kn (wdM vw a kn) } kn (wdM vw a kn) := by
  unfold snReads
  have hak : s.a kn = wdM vw a kn := by rw [ha];exact rdW_at hR.p hR.lt
  rw [hB.at_,if_pos (show atE vw.length (wrdA a kn) = 0 from e0),hl,if_pos rfl,hak,if_neg (fun h => h rfl)];rfl
 have ha2 : s.a 2 = wdM vw a 2 := by rw [ha];exact rdW_at ((pthB_iff _ 2).2 (.inl (by decide))) (by decide)
 rw [hsr]
 unfold snGo
 by_cases hq : 0 <= aftP kn (wdM vw a kn)
 ·obtain ⟨q,hqe,hq24,hkq,hqp,hqs⟩ := pth_next hR.p hq
  rw [if_pos hq,hqe]
  refine .inl ⟨by rw [e0];decide,e0,⟨hB.mv,hB.at_,by rw [e0];rfl⟩,.inr (.inr (.inl ⟨q,⟨hR.step,rfl,hq24,hqp,hR.has,hR.e3⟩,hl,ha,?_,hE,by rw [idx_next hR.p hqe];omega⟩))⟩
  show wset s.b kn (wdM vw a kn) = _
  rw [hb];exact rdW_set hqs
 ·obtain ⟨h8,hqs⟩ := pth_last hR.p hR.lt hq
  rw [if_neg hq,if_neg (by rw [hl];decide)]
  have hbn : wset s.b kn (wdM vw a kn) = rdW (wdM vw a) 24 := by rw [hb];exact rdW_set hqs
  by_cases hz : wdM vw a 2 = 0
  ·rw [if_neg (by show ¬ s.a 2 ≠ 0;rw [ha2];exact fun h => h hz)]
   refine .inl ⟨by rw [e0];decide,e0,⟨hB.mv,hB.at_,by rw [e0];rfl⟩,.inr (.inr (.inr (.inr ⟨rfl,ha,hbn,?_,fun h => absurd hz h,hR.e3,hE,by omega⟩)))⟩
   show s.has = _
   rw [hR.has,decide_eq_false (fun h => h hz)]
  ·rw [if_pos (by show s.a 2 ≠ 0;rw [ha2];exact hz)]
   exact .inl ⟨by rw [e0];decide,e0,⟨hB.mv,hB.at_,by rw [e0];rfl⟩,.inr (.inr (.inr (.inl ⟨rfl,ha,hbn,hR.has,hR.e3,hE,hz,by omega⟩)))⟩
theorem stepr_bd (hB : SnB mv a s) (ha : s.a = rdW (wdM vw a) 24) (hb : s.b = rdW (wdM vw a) 24) (he3 : erM vw a 3 = 0) (hE : ∀ j,pthB (wdM vw a) j = true -> j < 24 -> erM vw a j = 0) (hz : wdM vw a 2 ≠ 0) (hi : i <= 41) :
  StepR sb mv vw a i (false || atE vw.length (wrdA (s.a 2) 1) != 0) (atE vw.length (wrdA (s.a 2) 1)) (snOver (snBound sb vw s) false (atE vw.length (wrdA (s.a 2) 1))) := by
 have ha2 : s.a 2 = wdM vw a 2 := by rw [ha];exact rdW_at ((pthB_iff _ 2).2 (.inl (by decide))) (by decide)
 have hbh : (snBound sb vw s).high = ldW vw (wrdA (wdM vw a 2) 1) := by rw [<- ha2];rfl
 rw [ha2]
 rcases atE_or vw.length (wrdA (wdM vw a 2) 1) with e | e
 ·rw [e]
  exact .inl ⟨by decide,rfl,⟨hB.mv,hB.at_,rfl⟩,.inr (.inr (.inr (.inr ⟨rfl,ha,hb,by rw [decide_eq_true hz];rfl,fun _ => ⟨hbh,e⟩,he3,hE,by omega⟩)))⟩
 ·rw [e]
  exact .inr ⟨by decide,⟨rfl,rfl,⟨_,rfl⟩,.inl ⟨rfl,.inr (.inr ⟨hz,e⟩)⟩⟩⟩
theorem stepr_ag (hB : SnB mv a s) (hst : s.step = phV sb 96) (ha : s.a = rdW (wdM vw a) 24) (hb : s.b = rdW (wdM vw a) 24) (hh : s.has = decide (wdM vw a 2 ≠ 0)) (hhi : wdM vw a 2 ≠ 0 -> s.high = ldW vw (wrdA (wdM vw a 2) 1)) (he3 : erM vw a 3 = 0) :
  StepR sb mv vw a i ((snAgain sb vw s).1 || (snAgain sb vw s).2.1 != 0) (snAgain sb vw s).2.1 (snOver (snAgain sb vw s).2.2 (snAgain sb vw s).1 (snAgain sb vw s).2.1) := by
 have hag : agBad vw s = false := by
  unfold agBad
  rw [hB.at_,ha,hb,rdW_3,eqWd_self]
  show (wdM vw a 3 != wdM vw a 3 || !true) = false
  rw [bne_self_eq_false];rfl
 have hsa : snAgain sb vw s = (true,(ofV (rdW (wdM vw a) 24)).2,{ s with found := (ofV (rdW (wdM vw a) 24)).1 }) := by
  unfold snAgain
  rw [hB.at_,if_pos (show atE vw.length (wrdA a 3) = 0 from he3),hag,if_neg (by decide),ha]
 rw [hsa]
 exact .inr ⟨by simp,⟨by simp [snOver],rfl,⟨_,hst⟩,.inr ⟨rfl,rfl,hh,hhi⟩⟩⟩
end
end Go.Proofs.YtodgfbjjjgohgaaGreat
