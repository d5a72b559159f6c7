/-
 A WALK: hop: contracts.
-/
import Derived.Test.YtodgfbjjjgohgaaGreatYeZ
namespace Go.Proofs.YtodgfbjjjgohgaaGreat
open Go.RowKit
attribute [local go_sem] Oper.semAt_some
set_option linter.unusedVariables false

set_option maxRecDepth 100000 in
set_option maxHeartbeats 8000000 in
theorem whop_wait (w : World) (kb lb : Nat) (k : Wk) {P : World -> Prop} (hb : Blk w kb (wkCells k) 70) (hu : k.under = laI lb)
  (hS : Calls Tryz.prog 125 #[.pointer (some ⟨lb,0,none⟩)] w fun e w' => e = .returned (.tuple #[.bool false,.int .i64 0]) /\ P w') :
  Calls Tryz.prog 86 #[.pointer (some ⟨kb,0,none⟩)] w fun e w' => e = .returned (.tuple #[.bool false,.int .i64 0]) /\ P w' := by
 have HS := Lib.hid hS
 have c30 : w.cell? ⟨kb,30,none⟩ = some (.iface 168 (.pointer (some ⟨lb,0,none⟩))) := (hb.cell 30).trans ((wk_tl _ 2).trans (by rw [show (wkTl k)[2]? = some k.under from rfl,hu];rfl))
 clear hb hu hS
 go_enter Tryz.func86,Tryz.ntmps86
 go_wp2_with (fail)
 refine HS.out.mono ?_
 rintro e w2 ⟨rfl,hP⟩
 have HE := Lib.hid hP
 clear hP HS
 go_wp2_with (fail)
 go_ret2
 exact ⟨rfl,HE.out⟩
def hopK (k : Wk) : Wk := if k.n.lv = k.level then { k with low := k.high,tto := k.n.nx } else k
structure HoG (W0 : World) (kb : Nat) (k : Wk) (L : Nat -> Bool) (W : World) : Prop where
 kp : Keeps (fun i => i = kb) W0 W
 b : Blk W kb (wkCells { k with low := if L 15 = true then k.high else k.low,tto := if L 18 = true then k.n.nx else k.tto }) 70
section
variable {W0 W : World} {kb : Nat} {k : Wk} {L : Nat -> Bool}
theorem HoG.start (h : Blk W0 kb (wkCells k) 70) : HoG W0 kb k (fun _ => false) W0.drew := ⟨(Keeps.refl _ _).drew,h.drew⟩
theorem HoG.keep {L' : Nat -> Bool} (h : HoG W0 kb k L W) (e1 : L' 15 = L 15) (e2 : L' 18 = L 18) : HoG W0 kb k L' W := ⟨h.kp,by rw [e1,e2];exact h.b⟩
theorem HoG.low (h : HoG W0 kb k L W) : HoG W0 kb k (lset L 15) (W.setCell ⟨kb,28,none⟩ (.int .u64 k.high)) := by
 have hb := h.b.set 28 (.int .u64 k.high)
 rw [wk_setLow] at hb
 refine ⟨h.kp.setCell (p := ⟨kb,28,none⟩) (.inl rfl) _,?_⟩
 have e1 : lset L 15 15 = true := by simp [lset]
 have e2 : lset L 15 18 = L 18 := by simp [lset]
 rw [e1,e2,if_pos rfl];exact hb
theorem HoG.to_ (h : HoG W0 kb k L W) : HoG W0 kb k (lset L 18) (W.setCell ⟨kb,29,none⟩ (.int .u64 k.n.nx)) := by
 have hb := h.b.set 29 (.int .u64 k.n.nx)
 rw [wk_setTo] at hb
 refine ⟨h.kp.setCell (p := ⟨kb,29,none⟩) (.inl rfl) _,?_⟩
 have e1 : lset L 18 18 = true := by simp [lset]
 have e2 : lset L 18 15 = L 15 := by simp [lset]
 rw [e1,e2,if_pos rfl];exact hb
theorem HoG.end_ (h : HoG W0 kb k L W) (h1 : L 15 = true) (h2 : L 18 = true) : Keeps (fun i => i = kb) W0 W /\ Blk W kb (wkCells { k with low := k.high,tto := k.n.nx }) 70 := by
 have hb := h.b
 rw [h1,h2] at hb
 exact ⟨h.kp,hb⟩
end
set_option maxRecDepth 100000 in
set_option maxHeartbeats 16000000 in
theorem whop_done (w : World) (kb lb xb mb : Nat) (k : Wk) {P : World -> Prop} (hb : Blk w kb (wkCells k) 70) (hu : k.under = laI lb) (hs0 : k.s = some ⟨xb,0,none⟩)
  (hS : Calls Tryz.prog 125 #[.pointer (some ⟨lb,0,none⟩)] w fun e w' => e = .returned (.tuple #[.bool true,.int .i64 0]) /\ Blk w' kb (wkCells k) 70 /\ (∃ C,Blk w' xb C 88 /\ C[0]? = some (.pointer (some ⟨mb,0,none⟩))) /\ P w')
  (hxk : xb ≠ kb) :
  Calls Tryz.prog 86 #[.pointer (some ⟨kb,0,none⟩)] w fun e w' => ∃ sb',e = .returned (.tuple #[.bool false,.int .i64 0]) /\ Blk w' kb (wkCells (wkCome (hopK k) kb sb' k.n.nx)) 70 /\ Blk w' sb' (snCells (snNew sb' (some ⟨mb,0,none⟩) k.n.nx)) 164 /\ ∃ w2,P w2 /\ Keeps (fun i => i = kb) w2 w' /\ w2.heap.size <= sb' := by
 have hs0' := Lib.hid hs0
 have hxk' := Lib.hid hxk
 have HS := Lib.hid hS
 have c30 : w.cell? ⟨kb,30,none⟩ = some (.iface 168 (.pointer (some ⟨lb,0,none⟩))) := (hb.cell 30).trans ((wk_tl _ 2).trans (by rw [show (wkTl k)[2]? = some k.under from rfl,hu];rfl))
 clear hb hu hS hs0 hxk
 go_enter Tryz.func86,Tryz.ntmps86
 go_wp2_with (fail)
 refine HS.out.mono ?_
 rintro e w2 ⟨rfl,hb2,hP⟩
 have HP := Lib.hid hP
 have HB2 := Lib.hid hb2
 obtain ⟨c1,hc1⟩ : ∃ c1,(k.n.lv == k.level) = c1 := ⟨_,rfl⟩
 have Hc1 := Lib.hid hc1
 clear hb2 hP HS c30 hc1
 go_upto_region 4 with (fail)
 refine wp_region_vals [Is (.pointer (some ⟨kb,0,none⟩)),Is (.pointer (some ⟨kb,0,none⟩)),Is (.pointer (some ⟨kb,4,none⟩)),Is (.pointer (some ⟨kb,5,none⟩)),Is (.pointer (some ⟨kb,5,none⟩)),Is (.int .i64 k.n.lv),Is (.pointer (some ⟨kb,0,none⟩)),Is (.pointer (some ⟨kb,0,none⟩)),Is (.pointer (some ⟨kb,3,none⟩)),Is (.int .i64 k.level),Is (.bool c1)]
  (fun _ _ _ => True) (fun _ W => Below w2.heap.size w2 W) (by kernel_rfl) (by kernel_rfl) (by kernel_rfl) ?hst ?h0 ⟨?o0,?o1,?o2,?o3,?o4,?o5,?o6,?o7,?o8,?o9,?o10,trivial⟩ ?he
 any_goals (intro L vs A W H hf hd K hK)
 case hst => repeat' (first | exact trivial | refine ⟨fun _ _ _ _ _ _ h _ => h,?_⟩)
 case h0 =>
  exact (Below.refl _ w2).drew
 case o0 => have e0 : A.tmps[0]?.getD undef = .pointer (some ⟨kb,0,none⟩) := H.old 0 (by kernel_rfl);go_simp;exact hK _ _ (trivial) rfl (H.glob)
 case o1 => have e23 := H.iz hd 0 23 rfl rfl rfl (by kernel_rfl);go_simp;exact hK _ _ (trivial) rfl (H.glob)
 case o2 => have e24 := H.iz hd 1 24 rfl rfl rfl (by kernel_rfl);go_simp;exact hK _ _ (trivial) rfl (H.glob)
 case o3 => have e25 := H.iz hd 2 25 rfl rfl rfl (by kernel_rfl);go_simp;exact hK _ _ (trivial) rfl (H.glob)
 case o4 => have e26 := H.iz hd 3 26 rfl rfl rfl (by kernel_rfl);go_simp;exact hK _ _ (trivial) rfl (H.glob)
 case o5 => have e27 := H.iz hd 4 27 rfl rfl rfl (by kernel_rfl);have d : W.cell? ⟨kb,5,none⟩ = some (.int .i64 k.n.lv) := (H.glob.cell (p := ⟨kb,5,none⟩) HB2.out.lt).trans ((HB2.out.cell 5).trans (wk_n _ 0 _ rfl));go_simp;exact hK _ _ (trivial) rfl (H.glob)
 case o6 => have e0 : A.tmps[0]?.getD undef = .pointer (some ⟨kb,0,none⟩) := H.old 0 (by kernel_rfl);go_simp;exact hK _ _ (trivial) rfl (H.glob)
 case o7 => have e29 := H.iz hd 6 29 rfl rfl rfl (by kernel_rfl);go_simp;exact hK _ _ (trivial) rfl (H.glob)
 case o8 => have e30 := H.iz hd 7 30 rfl rfl rfl (by kernel_rfl);go_simp;exact hK _ _ (trivial) rfl (H.glob)
 case o9 => have e31 := H.iz hd 8 31 rfl rfl rfl (by kernel_rfl);have d : W.cell? ⟨kb,3,none⟩ = some (.int .i64 k.level) := (H.glob.cell (p := ⟨kb,3,none⟩) HB2.out.lt).trans ((HB2.out.cell 3).trans ((wk_hd _ 3 (by decide)).trans rfl));go_simp;exact hK _ _ (trivial) rfl (H.glob)
 case o10 => have e28 := H.iz hd 5 28 rfl rfl rfl (by kernel_rfl);have e32 := H.iz hd 9 32 rfl rfl rfl (by kernel_rfl);have hq := Hc1.out;go_simp;exact hK _ _ (trivial) rfl (H.glob)
 case he =>
  intro vs W hlen hv
  match vs,hlen,hv with
  | [x0_,x1_,x2_,x3_,x4_,x5_,x6_,x7_,x8_,x9_,x10_],_,hv =>
  obtain rfl := isv hv 0 rfl rfl;obtain rfl := isv hv 1 rfl rfl;obtain rfl := isv hv 2 rfl rfl;obtain rfl := isv hv 3 rfl rfl;obtain rfl := isv hv 4 rfl rfl;obtain rfl := isv hv 5 rfl rfl;obtain rfl := isv hv 6 rfl rfl;obtain rfl := isv hv 7 rfl rfl;obtain rfl := isv hv 8 rfl rfl;obtain rfl := isv hv 9 rfl rfl;obtain rfl := isv hv 10 rfl rfl
  intro L hall hG
  clear hv hlen
  have HB9 := Lib.hid hG
  clear hG hall
  simp only [fill,if_true]
  simp [Act.put]
  have HB3 := Lib.hid (HB2.out.below HB9.out HB2.out.lt)
  have HK3 := Lib.hid (show Keeps (fun i => i = kb) w2 W from (Keeps.of_below' HB9.out).mono (fun _ _ h => h.elim))
  obtain ⟨w3,rfl⟩ : ∃ w3,w3 = W := ⟨_,rfl⟩
  clear HB2 HB9
  cases c1 with
  | true =>
   go_upto_region 5 with (fail)
   refine wp_region_vals [Is (.pointer (some ⟨kb,0,none⟩)),Is (.pointer (some ⟨kb,0,none⟩)),Is (.pointer (some ⟨kb,0,none⟩)),Is (.pointer (some ⟨kb,0,none⟩)),Is (.pointer (some ⟨kb,4,none⟩)),Is (.pointer (some ⟨kb,26,none⟩)),Is (.int .u64 k.high),Is (.pointer (some ⟨kb,0,none⟩)),Is (.pointer (some ⟨kb,0,none⟩)),Is (.pointer (some ⟨kb,4,none⟩)),Is (.pointer (some ⟨kb,5,none⟩)),Is (.pointer (some ⟨kb,7,none⟩)),Is (.int .u64 k.n.nx),Is (.pointer (some ⟨kb,0,none⟩)),Is (.pointer (some ⟨kb,28,none⟩)),Any,Is (.pointer (some ⟨kb,0,none⟩)),Is (.pointer (some ⟨kb,29,none⟩)),Any]
    (fun _ _ _ => True) (fun L W => HoG w3 kb k L W) (by kernel_rfl) (by kernel_rfl) (by kernel_rfl) ?hst ?h0 ⟨?o0,?o1,?o2,?o3,?o4,?o5,?o6,?o7,?o8,?o9,?o10,?o11,?o12,?o13,?o14,?o15,?o16,?o17,?o18,trivial⟩ ?he
   any_goals (intro L vs A W H hf hd K hK)
   case hst => repeat' (first | exact trivial | refine ⟨fun _ _ _ _ _ _ h _ => h,?_⟩)
   case h0 =>
    exact HoG.start HB3.out
   case o0 => have e0 : A.tmps[0]?.getD undef = .pointer (some ⟨kb,0,none⟩) := H.old 0 (by kernel_rfl);go_simp;exact hK _ _ (trivial) rfl (H.glob.keep rfl rfl)
   case o1 => have e0 : A.tmps[0]?.getD undef = .pointer (some ⟨kb,0,none⟩) := H.old 0 (by kernel_rfl);go_simp;exact hK _ _ (trivial) rfl (H.glob.keep rfl rfl)
   case o2 => have e0 : A.tmps[0]?.getD undef = .pointer (some ⟨kb,0,none⟩) := H.old 0 (by kernel_rfl);go_simp;exact hK _ _ (trivial) rfl (H.glob.keep rfl rfl)
   case o3 => have e36 := H.iz hd 2 36 rfl rfl rfl (by kernel_rfl);go_simp;exact hK _ _ (trivial) rfl (H.glob.keep rfl rfl)
   case o4 => have e37 := H.iz hd 3 37 rfl rfl rfl (by kernel_rfl);go_simp;exact hK _ _ (trivial) rfl (H.glob.keep rfl rfl)
   case o5 => have e38 := H.iz hd 4 38 rfl rfl rfl (by kernel_rfl);go_simp;exact hK _ _ (trivial) rfl (H.glob.keep rfl rfl)
   case o6 => have e39 := H.iz hd 5 39 rfl rfl rfl (by kernel_rfl);have d : W.cell? ⟨kb,26,none⟩ = some (.int .u64 k.high) := (H.glob.b.cell 26).trans (wk_26 _);go_simp;exact hK _ _ (trivial) rfl (H.glob.keep rfl rfl)
   case o7 => have e0 : A.tmps[0]?.getD undef = .pointer (some ⟨kb,0,none⟩) := H.old 0 (by kernel_rfl);go_simp;exact hK _ _ (trivial) rfl (H.glob.keep rfl rfl)
   case o8 => have e41 := H.iz hd 7 41 rfl rfl rfl (by kernel_rfl);go_simp;exact hK _ _ (trivial) rfl (H.glob.keep rfl rfl)
   case o9 => have e42 := H.iz hd 8 42 rfl rfl rfl (by kernel_rfl);go_simp;exact hK _ _ (trivial) rfl (H.glob.keep rfl rfl)
   case o10 => have e43 := H.iz hd 9 43 rfl rfl rfl (by kernel_rfl);go_simp;exact hK _ _ (trivial) rfl (H.glob.keep rfl rfl)
   case o11 => have e44 := H.iz hd 10 44 rfl rfl rfl (by kernel_rfl);go_simp;exact hK _ _ (trivial) rfl (H.glob.keep rfl rfl)
   case o12 => have e45 := H.iz hd 11 45 rfl rfl rfl (by kernel_rfl);have d : W.cell? ⟨kb,7,none⟩ = some (.int .u64 k.n.nx) := (H.glob.b.cell 7).trans (wk_n _ 2 _ rfl);go_simp;exact hK _ _ (trivial) rfl (H.glob.keep rfl rfl)
   case o13 => have e34 := H.iz hd 0 34 rfl rfl rfl (by kernel_rfl);go_simp;exact hK _ _ (trivial) rfl (H.glob.keep rfl rfl)
   case o14 => have e47 := H.iz hd 13 47 rfl rfl rfl (by kernel_rfl);go_simp;exact hK _ _ (trivial) rfl (H.glob.keep rfl rfl)
   case o15 => have e48 := H.iz hd 14 48 rfl rfl rfl (by kernel_rfl);have e40 := H.iz hd 6 40 rfl rfl rfl (by kernel_rfl);have d := (H.glob.b.cell 28).trans ((wk_tl _ 0).trans rfl);have f := H.glob.b.frozen 28;go_simp;exact hK undef _ trivial trivial H.glob.low
   case o16 => have e35 := H.iz hd 1 35 rfl rfl rfl (by kernel_rfl);go_simp;exact hK _ _ (trivial) rfl (H.glob.keep rfl rfl)
   case o17 => have e49 := H.iz hd 16 49 rfl rfl rfl (by kernel_rfl);go_simp;exact hK _ _ (trivial) rfl (H.glob.keep rfl rfl)
   case o18 => have e50 := H.iz hd 17 50 rfl rfl rfl (by kernel_rfl);have e46 := H.iz hd 12 46 rfl rfl rfl (by kernel_rfl);have d := (H.glob.b.cell 29).trans ((wk_tl _ 1).trans rfl);have f := H.glob.b.frozen 29;go_simp;exact hK undef _ trivial trivial H.glob.to_
   case he =>
    intro vs W hlen hv
    match vs,hlen,hv with
    | [x0_,x1_,x2_,x3_,x4_,x5_,x6_,x7_,x8_,x9_,x10_,x11_,x12_,x13_,x14_,x15_,x16_,x17_,x18_],_,hv =>
    obtain rfl := isv hv 0 rfl rfl;obtain rfl := isv hv 1 rfl rfl;obtain rfl := isv hv 2 rfl rfl;obtain rfl := isv hv 3 rfl rfl;obtain rfl := isv hv 4 rfl rfl;obtain rfl := isv hv 5 rfl rfl;obtain rfl := isv hv 6 rfl rfl;obtain rfl := isv hv 7 rfl rfl;obtain rfl := isv hv 8 rfl rfl;obtain rfl := isv hv 9 rfl rfl;obtain rfl := isv hv 10 rfl rfl;obtain rfl := isv hv 11 rfl rfl;obtain rfl := isv hv 12 rfl rfl;obtain rfl := isv hv 13 rfl rfl;obtain rfl := isv hv 14 rfl rfl;obtain rfl := isv hv 16 rfl rfl;obtain rfl := isv hv 17 rfl rfl
    intro L hall hG
    clear hv hlen
    have HG := Lib.hid (hG.end_ (hall 15 (by decide)) (hall 18 (by decide)))
    clear hG hall
    simp only [fill,if_true]
    simp [Act.put]
    obtain ⟨k3,hk3⟩ : ∃ k3,({ k with low := k.high,tto := k.n.nx } : Wk) = k3 := ⟨_,rfl⟩
    have HBF := Lib.hid (show Blk W kb (wkCells k3) 70 from by rw [<- hk3];exact HG.out.2)
    have HKF := Lib.hid (HK3.out.trans HG.out.1)
    have HSx := Lib.hid (show k3.s = some ⟨xb,0,none⟩ from by rw [<- hk3];exact hs0'.out)
    have HQ3 := Lib.hid (show hopK k = k3 /\ k.n.nx = k3.n.nx from by
     refine ⟨?_,by rw [<- hk3]⟩
     unfold hopK
     rw [if_pos (by have := Hc1.out;simpa using this),hk3])
    obtain ⟨wF,rfl⟩ : ∃ wF,wF = W := ⟨_,rfl⟩
    clear HG hk3 HB3
    have HXf := Lib.hid (show ∃ C,Blk wF xb C 88 /\ C[0]? = some (.pointer (some ⟨mb,0,none⟩)) from by
     obtain ⟨⟨C,hx,hC⟩,_⟩ := HP.out
     exact ⟨C,hx.kept HKF.out hxk'.out,hC⟩)
    have HCo := Lib.hid (show Calls Tryz.prog 54 #[.pointer (some ⟨kb,0,none⟩),.int .u64 k3.n.nx] wF fun e w' => e = .returned (.tuple #[]) /\ (∃ sb',Blk w' sb' (snCells (snNew sb' (some ⟨mb,0,none⟩) k3.n.nx)) 164 /\ wF.heap.size <= sb' /\ Blk w' kb (wkCells (wkCome k3 kb sb' k3.n.nx)) 70) /\ Keeps (fun i => i = kb) wF w' from by
     obtain ⟨C,hx,hC⟩ := HXf.out
     refine (wcome_v k3 kb xb (some ⟨mb,0,none⟩) k3.n.nx C wF HBF.out HSx.out hx hC hxk'.out).mono ?_
     rintro e w' ⟨sb',rfl,h1,h2,h3,h4⟩
     exact ⟨rfl,⟨sb',h1,h2,h3⟩,h4⟩)
    obtain ⟨nx,hnx⟩ : ∃ nx,k3.n.nx = nx := ⟨_,rfl⟩
    have d7 : wF.cell? ⟨kb,7,none⟩ = some (.int .u64 nx) := (HBF.out.cell 7).trans ((wk_n _ 2 _ rfl).trans (by rw [<- hnx];rfl))
    rw [hnx] at HCo
    have HNx := Lib.hid hnx
    clear hnx
    go_wp2_with (fail)
    refine HCo.out.mono ?_
    rintro e w4 ⟨rfl,⟨sb',h1,h2,h3⟩,h4⟩
    have HE := Lib.hid (show ∃ sb',Blk w4 kb (wkCells (wkCome (hopK k) kb sb' k.n.nx)) 70 /\ Blk w4 sb' (snCells (snNew sb' (some ⟨mb,0,none⟩) k.n.nx)) 164 /\ ∃ w2,P w2 /\ Keeps (fun i => i = kb) w2 w4 /\ w2.heap.size <= sb' from by
     have hsz := HKF.out.size
     rw [<- HNx.out] at h1 h3
     rw [HQ3.out.1,HQ3.out.2]
     exact ⟨sb',h3,h1,w2,HP.out.2,HKF.out.trans h4,by omega⟩)
    clear h1 h2 h3 h4 HCo
    go_wp2_with (fail)
    go_ret2
    obtain ⟨sb',hE⟩ := HE.out
    exact ⟨sb',rfl,hE⟩
  | false =>
   obtain ⟨k3,hk3⟩ : ∃ k3,k = k3 := ⟨_,rfl⟩
   have HBF := Lib.hid (show Blk w3 kb (wkCells k3) 70 from by rw [<- hk3];exact HB3.out)
   have HKF := HK3
   have HSx := Lib.hid (show k3.s = some ⟨xb,0,none⟩ from by rw [<- hk3];exact hs0'.out)
   have HQ3 := Lib.hid (show hopK k = k3 /\ k.n.nx = k3.n.nx from by
    refine ⟨?_,by rw [<- hk3]⟩
    unfold hopK
    rw [if_neg (by have := Hc1.out;simpa using this),hk3])
   obtain ⟨wF,rfl⟩ : ∃ wF,wF = w3 := ⟨_,rfl⟩
   clear hk3 HB3
   have HXf := Lib.hid (show ∃ C,Blk wF xb C 88 /\ C[0]? = some (.pointer (some ⟨mb,0,none⟩)) from by
    obtain ⟨⟨C,hx,hC⟩,_⟩ := HP.out
    exact ⟨C,hx.kept HKF.out hxk'.out,hC⟩)
   have HCo := Lib.hid (show Calls Tryz.prog 54 #[.pointer (some ⟨kb,0,none⟩),.int .u64 k3.n.nx] wF fun e w' => e = .returned (.tuple #[]) /\ (∃ sb',Blk w' sb' (snCells (snNew sb' (some ⟨mb,0,none⟩) k3.n.nx)) 164 /\ wF.heap.size <= sb' /\ Blk w' kb (wkCells (wkCome k3 kb sb' k3.n.nx)) 70) /\ Keeps (fun i => i = kb) wF w' from by
    obtain ⟨C,hx,hC⟩ := HXf.out
    refine (wcome_v k3 kb xb (some ⟨mb,0,none⟩) k3.n.nx C wF HBF.out HSx.out hx hC hxk'.out).mono ?_
    rintro e w' ⟨sb',rfl,h1,h2,h3,h4⟩
    exact ⟨rfl,⟨sb',h1,h2,h3⟩,h4⟩)
   obtain ⟨nx,hnx⟩ : ∃ nx,k3.n.nx = nx := ⟨_,rfl⟩
   have d7 : wF.cell? ⟨kb,7,none⟩ = some (.int .u64 nx) := (HBF.out.cell 7).trans ((wk_n _ 2 _ rfl).trans (by rw [<- hnx];rfl))
   rw [hnx] at HCo
   have HNx := Lib.hid hnx
   clear hnx
   go_wp2_with (fail)
   refine HCo.out.mono ?_
   rintro e w4 ⟨rfl,⟨sb',h1,h2,h3⟩,h4⟩
   have HE := Lib.hid (show ∃ sb',Blk w4 kb (wkCells (wkCome (hopK k) kb sb' k.n.nx)) 70 /\ Blk w4 sb' (snCells (snNew sb' (some ⟨mb,0,none⟩) k.n.nx)) 164 /\ ∃ w2,P w2 /\ Keeps (fun i => i = kb) w2 w4 /\ w2.heap.size <= sb' from by
    have hsz := HKF.out.size
    rw [<- HNx.out] at h1 h3
    rw [HQ3.out.1,HQ3.out.2]
    exact ⟨sb',h3,h1,w2,HP.out.2,HKF.out.trans h4,by omega⟩)
   clear h1 h2 h3 h4 HCo
   go_wp2_with (fail)
   go_ret2
   obtain ⟨sb',hE⟩ := HE.out
   exact ⟨sb',rfl,hE⟩
end Go.Proofs.YtodgfbjjjgohgaaGreat
