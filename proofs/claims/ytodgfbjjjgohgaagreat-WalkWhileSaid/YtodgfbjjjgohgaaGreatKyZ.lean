/-
 A WALK: look: contracts,by what the snapshot has found.
-/
import Derived.Test.YtodgfbjjjgohgaaGreatKxZ
import Derived.Test.YtodgfbjjjgohgaaGreatKbZ
namespace Go.Proofs.YtodgfbjjjgohgaaGreat
open Go.RowKit
attribute [local go_sem] Oper.semAt_some
set_option linter.unusedVariables false

def snI (sb : Nat) : Value := .iface 151 (.pointer (some ⟨sb,0,none⟩))
theorem ta_sn (sb : Nat) (w : World) : (Instr.typeAssert (.iface 151 (.pointer (some ⟨sb,0,none⟩))) 68 151 true).run Tryz.prog w = .ok (.tuple #[.pointer (some ⟨sb,0,none⟩),.bool true]) w := by kernel_rfl
/-! . -/
set_option maxRecDepth 100000 in
set_option maxHeartbeats 8000000 in
theorem wlook_wait (w : World) (kb sb : Nat) (k : Wk) {P : World -> Prop} (hb : Blk w kb (wkCells k) 70) (hu : k.under = snI sb)
  (hS : Calls Tryz.prog 124 #[.pointer (some ⟨sb,0,none⟩)] w fun e w' => e = .returned (.tuple #[.bool false,.int .i64 0]) /\ Blk w' kb (wkCells k) 70 /\ P w') :
  Calls Tryz.prog 72 #[.pointer (some ⟨kb,0,none⟩)] w fun e w' => e = .returned (.tuple #[.bool false,.int .i64 0]) /\ Blk w' kb (wkCells k) 70 /\ P w' := by
 have HS := Lib.hid hS
 have HU := Lib.hid hu
 have c30 : w.cell? ⟨kb,30,none⟩ = some (.iface 151 (.pointer (some ⟨sb,0,none⟩))) := (hb.cell 30).trans ((wk_tl _ 2).trans (by rw [show (wkTl k)[2]? = some k.under from rfl,hu];rfl))
 clear hb hu hS
 go_enter Tryz.func72,Tryz.ntmps72
 go_wp2_with (fail)
 refine HS.out.mono ?_
 rintro e w2 ⟨rfl,hb2,hP⟩
 have d30 : w2.cell? ⟨kb,30,none⟩ = some (.iface 151 (.pointer (some ⟨sb,0,none⟩))) := (hb2.cell 30).trans ((wk_tl _ 2).trans (by rw [show (wkTl k)[2]? = some k.under from rfl,HU.out];rfl))
 have HE := Lib.hid (And.intro hb2 hP)
 have hta := ta_sn sb
 clear hb2 hP HS
 go_wp2_with (fail)
 go_ret2
 exact ⟨rfl,HE.out.1,HE.out.2⟩
/-! . -/
def wkSeen (k : Wk) (n : Nd) (high : Int) (has : Bool) : Wk := { k with n := n,high := high,has := has }
set_option maxRecDepth 100000 in
set_option maxHeartbeats 16000000 in
theorem wlook_here (w : World) (kb sb : Nat) (k : Wk) {P : Sn -> World -> Prop} (hb : Blk w kb (wkCells k) 70) (hu : k.under = snI sb)
  (hS : Calls Tryz.prog 124 #[.pointer (some ⟨sb,0,none⟩)] w fun e w' => e = .returned (.tuple #[.bool true,.int .i64 0]) /\ Blk w' kb (wkCells k) 70 /\ ∃ s,Blk w' sb (snCells s) 164 /\ s.over = true /\ s.e = 0 /\ (∃ f,s.step = phV sb f) /\ (s.has = true -> k.key < s.high) /\ s.found.lv <= k.level /\ P s w')
  (hne : sb ≠ kb) :
  Calls Tryz.prog 72 #[.pointer (some ⟨kb,0,none⟩)] w fun e w' => ∃ s,e = .returned (.tuple #[.bool true,.int .i64 (if s.found.lv < k.level then 5 else 0)]) /\ Blk w' kb (wkCells (wkSeen k s.found (highP s).1 (highP s).2)) 70 /\ ∃ w2,P s w2 /\ Keeps (fun i => i = kb) w2 w' := by
 have HS := Lib.hid hS
 have HU := Lib.hid hu
 have c30 : w.cell? ⟨kb,30,none⟩ = some (.iface 151 (.pointer (some ⟨sb,0,none⟩))) := (hb.cell 30).trans ((wk_tl _ 2).trans (by rw [show (wkTl k)[2]? = some k.under from rfl,hu];rfl))
 clear hb hu hS
 go_enter Tryz.func72,Tryz.ntmps72
 go_wp2_with (fail)
 refine HS.out.mono ?_
 rintro e w2 ⟨rfl,hb2,s,hs2,ho,he,⟨f,hf⟩,hkh,hlv,hP⟩
 have d30 : w2.cell? ⟨kb,30,none⟩ = some (.iface 151 (.pointer (some ⟨sb,0,none⟩))) := (hb2.cell 30).trans ((wk_tl _ 2).trans (by rw [show (wkTl k)[2]? = some k.under from rfl,HU.out];rfl))
 have hta := ta_sn sb
 have hnp : nodeP s = (s.found,0) := by unfold nodeP;rw [ho,if_neg (by decide),he,if_neg (fun h => h rfl)]
 have hhp : highP s = if s.has = true then (s.high,true) else (0,false) := by unfold highP;rw [hnp,if_pos rfl]
 have hno := node_v s sb f w2 hs2 hf
 rw [hnp] at hno
 have HNo := Lib.hid hno
 have HB2 := Lib.hid hb2
 have HS2 := Lib.hid hs2
 have HP := Lib.hid hP
 have HHp := Lib.hid hhp
 have HKh := Lib.hid (And.intro hkh hlv)
 clear hb2 hs2 hP hno HS ho he hnp hhp hkh hlv
 go_wp2_with (fail)
 refine HNo.out.mono ?_
 rintro e w3 ⟨rfl,hB3⟩
 have hb3 := HB2.out.below hB3 HB2.out.lt
 have hs3 := HS2.out.below hB3 HS2.out.lt
 have hb4 := Blk.mid (ndCells s.found).toList 5 hb3
 rw [wk_putN] at hb4
 have hk4 : Keeps (fun i => i = kb) w3 (w3.setCells kb 5 (ndCells s.found).toList) := keeps_setCells (S := fun i => i = kb) (.inl rfl) _ 5 (Keeps.refl _ _)
 have hs4 := hs3.kept hk4 hne
 have HB3 := Lib.hid hb3
 obtain ⟨w4,hw4⟩ : ∃ w4,w3.setCells kb 5 (ndCells s.found).toList = w4 := ⟨_,rfl⟩
 rw [hw4] at hb4 hk4 hs4
 have HW4 := Lib.hid hw4
 have HB4 := Lib.hid hb4
 have HK4 := Lib.hid (((Keeps.of_below' hB3).mono (fun _ _ h => h.elim)).trans hk4)
 have HHi := Lib.hid (high_v s sb f w4 hs4 hf)
 clear hb3 hs3 hb4 hk4 hs4 hw4 hB3 d30 hta
 go_upto_region 6 with ((with_reducible refine wpList_store_ndm (o := ⟨none,.store 46 (.tmp 45) (.tmp 41),_,_,_,_⟩) ?hgM (.tmp 45) (.tmp 41) ?hoM kb 5 s.found (ndCells s.found) ?CCM 70 ?hxM ?hyM ?hmM ?hbM ?hsM ?_);(case hgM => rfl);(case hoM => rfl);(case hxM => rfl);(case hyM => rfl);(case hmM => rfl);(case hbM => exact HB3.out);(case hsM => rw [wkCells_size];decide))
 rw [HW4.out]
 clear HW4 HB3
 simp [Act.put]
 go_wp2_with (fail)
 refine HHi.out.mono ?_
 rintro e w5 ⟨rfl,hB5⟩
 obtain ⟨hw,hs,hhp⟩ : ∃ hw hs,highP s = (hw,hs) := ⟨_,_,rfl⟩
 have hlt : hs = true -> k.key < hw := by
  intro e
  have h1 := HHp.out
  rw [hhp] at h1
  by_cases h : s.has = true
  ·rw [if_pos h] at h1
   injection h1 with h1 h2
   rw [h1];exact HKh.out.1 h
  ·rw [if_neg h] at h1
   injection h1 with h1 h2
   rw [h2] at e;cases e
 rw [hhp]
 have hb5 := HB4.out.below hB5 HB4.out.lt
 have c26 : w5.cell? ⟨kb,26,none⟩ = some (.int .u64 k.high) := (hb5.cell 26).trans (wk_26 _)
 have f26 : w5.frozen? ⟨kb,26,none⟩ = false := hb5.frozen 26
 have c27 : w5.cell? ⟨kb,27,none⟩ = some (.bool k.has) := (hb5.cell 27).trans (wk_27 _)
 have f27 : w5.frozen? ⟨kb,27,none⟩ = false := hb5.frozen 27
 have hb6 := (hb5.set 26 (.int .u64 hw)).set 27 (.bool hs)
 rw [wk_set26,wk_set27] at hb6
 have hk6 : Keeps (fun i => i = kb) w5 ((w5.setCell ⟨kb,26,none⟩ (.int .u64 hw)).setCell ⟨kb,27,none⟩ (.bool hs)) := ((Keeps.refl (fun i => i = kb) w5).setCell (p := ⟨kb,26,none⟩) (.inl rfl) _).setCell (p := ⟨kb,27,none⟩) (.inl rfl) _
 have HK6 := Lib.hid ((HK4.out.trans ((Keeps.of_below' hB5).mono (fun _ _ h => h.elim))).trans hk6)
 obtain ⟨k2,hk2⟩ : ∃ k2,wkSeen k s.found hw hs = k2 := ⟨_,rfl⟩
 have hb6' : Blk ((w5.setCell ⟨kb,26,none⟩ (.int .u64 hw)).setCell ⟨kb,27,none⟩ (.bool hs)) kb (wkCells k2) 70 := by rw [<- hk2];exact hb6
 have HB5 := Lib.hid hb6'
 have HQ := Lib.hid (show k2.has = hs /\ k2.key = k.key /\ k2.high = hw /\ k2.level = k.level /\ k2.n.lv = s.found.lv from by rw [<- hk2];exact ⟨rfl,rfl,rfl,rfl,rfl⟩)
 have HK2 := Lib.hid hk2
 have HLt := Lib.hid hlt
 clear hb5 hb6 hb6' hk6 hk2 hB5 hlt HNo HHi HS2 HB2 HB4 HK4
 go_upto_region 8 with (fail)
 obtain ⟨w6,hw6⟩ : ∃ w6,(w5.setCell ⟨kb,26,none⟩ (.int .u64 hw)).setCell ⟨kb,27,none⟩ (.bool hs) = w6 := ⟨_,rfl⟩
 rw [hw6] at HB5 HK6 ⊢
 clear hw6 c26 f26 c27 f27
 go_cut [59] (fun v59 wx => v59 = .bool false /\ Hid (Below w6.heap.size w6 wx))
 case first =>
  obtain ⟨w5,rfl⟩ : ∃ w5,w5 = w6 := ⟨_,rfl⟩
  cases hs with
  | false =>
   have Hhs := Lib.hid HQ.out.1
   refine wp_region_vals [Is (.pointer (some ⟨kb,0,none⟩)),Is (.pointer (some ⟨kb,0,none⟩)),Is (.pointer (some ⟨kb,4,none⟩)),Is (.pointer (some ⟨kb,27,none⟩)),Is (.bool false),Is (.bool false),Any,Any,Any,Any,Any,Any,Any,Any,Any,Any,Is (.bool false),Is (.bool false)]
    (fun _ _ _ => True) (fun _ W => Below w5.heap.size w5 W) (by kernel_rfl) (by kernel_rfl) (by kernel_rfl) ?hst ?h0 ⟨?o0,?o1,?o2,?o3,?o4,?o5,?o6,?o7,?o8,?o9,?o10,?o11,?o12,?o13,?o14,?o15,?o16,?o17,trivial⟩ ?he
   any_goals (intro L vs A W H hf hd K hK)
   case hst => repeat' (first | exact trivial | refine ⟨fun _ _ _ _ _ _ h _ => h,?_⟩)
   case h0 =>
    exact (Below.refl _ w5).drew
   case o0 => have e0 : A.tmps[0]?.getD undef = .pointer (some ⟨kb,0,none⟩) := H.old 0 (by kernel_rfl);go_simp;exact hK _ _ (trivial) rfl (H.glob)
   case o1 => have e60 := H.iz hd 0 60 rfl rfl rfl (by kernel_rfl);go_simp;exact hK _ _ (trivial) rfl (H.glob)
   case o2 => have e61 := H.iz hd 1 61 rfl rfl rfl (by kernel_rfl);go_simp;exact hK _ _ (trivial) rfl (H.glob)
   case o3 => have e62 := H.iz hd 2 62 rfl rfl rfl (by kernel_rfl);go_simp;exact hK _ _ (trivial) rfl (H.glob)
   case o4 => have e63 := H.iz hd 3 63 rfl rfl rfl (by kernel_rfl);have d0 : W.cell? ⟨kb,27,none⟩ = some (.bool false) := (H.glob.cell (p := ⟨kb,27,none⟩) HB5.out.lt).trans ((HB5.out.cell 27).trans ((wk_27 _).trans (by rw [Hhs.out])));go_simp;exact hK _ _ (trivial) rfl (H.glob)
   case o5 => have e64 := H.iz hd 4 64 rfl rfl rfl (by kernel_rfl);go_simp;exact hK _ _ (trivial) rfl (H.glob)
   case o6 => have e65 := H.iz hd 5 65 rfl rfl rfl (by kernel_rfl);refine if_unwanted (j := 5) (s := 65) rfl rfl rfl e65 rfl ?_;exact hK _ _ (trivial) trivial (H.glob)
   case o7 => have e65 := H.iz hd 5 65 rfl rfl rfl (by kernel_rfl);refine if_unwanted (j := 5) (s := 65) rfl rfl rfl e65 rfl ?_;exact hK _ _ (trivial) trivial (H.glob)
   case o8 => have e65 := H.iz hd 5 65 rfl rfl rfl (by kernel_rfl);refine if_unwanted (j := 5) (s := 65) rfl rfl rfl e65 rfl ?_;exact hK _ _ (trivial) trivial (H.glob)
   case o9 => have e65 := H.iz hd 5 65 rfl rfl rfl (by kernel_rfl);refine if_unwanted (j := 5) (s := 65) rfl rfl rfl e65 rfl ?_;exact hK _ _ (trivial) trivial (H.glob)
   case o10 => have e65 := H.iz hd 5 65 rfl rfl rfl (by kernel_rfl);refine if_unwanted (j := 5) (s := 65) rfl rfl rfl e65 rfl ?_;exact hK _ _ (trivial) trivial (H.glob)
   case o11 => have e65 := H.iz hd 5 65 rfl rfl rfl (by kernel_rfl);refine if_unwanted (j := 5) (s := 65) rfl rfl rfl e65 rfl ?_;exact hK _ _ (trivial) trivial (H.glob)
   case o12 => have e65 := H.iz hd 5 65 rfl rfl rfl (by kernel_rfl);refine if_unwanted (j := 5) (s := 65) rfl rfl rfl e65 rfl ?_;exact hK _ _ (trivial) trivial (H.glob)
   case o13 => have e65 := H.iz hd 5 65 rfl rfl rfl (by kernel_rfl);refine if_unwanted (j := 5) (s := 65) rfl rfl rfl e65 rfl ?_;exact hK _ _ (trivial) trivial (H.glob)
   case o14 => have e65 := H.iz hd 5 65 rfl rfl rfl (by kernel_rfl);refine if_unwanted (j := 5) (s := 65) rfl rfl rfl e65 rfl ?_;exact hK _ _ (trivial) trivial (H.glob)
   case o15 => have e65 := H.iz hd 5 65 rfl rfl rfl (by kernel_rfl);refine if_unwanted (j := 5) (s := 65) rfl rfl rfl e65 rfl ?_;exact hK _ _ (trivial) trivial (H.glob)
   case o16 => have e65 := H.iz hd 5 65 rfl rfl rfl (by kernel_rfl);obtain ⟨v75,e75,q75⟩ := H.val 15 75 rfl rfl rfl (deps_of' hd 15 (by kernel_rfl)) (by kernel_rfl);go_simp;exact hK _ _ (trivial) rfl (H.glob)
   case o17 => have e76 := H.iz hd 16 76 rfl rfl rfl (by kernel_rfl);go_simp;exact hK _ _ (trivial) rfl (H.glob)
   case he =>
    intro vs W hlen hv
    match vs,hlen,hv with
    | [x0_,x1_,x2_,x3_,x4_,x5_,x6_,x7_,x8_,x9_,x10_,x11_,x12_,x13_,x14_,x15_,x16_,x17_],_,hv =>
    obtain rfl := isv hv 0 rfl rfl;obtain rfl := isv hv 1 rfl rfl;obtain rfl := isv hv 2 rfl rfl;obtain rfl := isv hv 3 rfl rfl;obtain rfl := isv hv 4 rfl rfl;obtain rfl := isv hv 5 rfl rfl;obtain rfl := isv hv 16 rfl rfl;obtain rfl := isv hv 17 rfl rfl
    intro L hall hG
    clear hv hlen
    have HB9 := Lib.hid hG
    clear hG hall
    simp only [fill,if_true]
    simp [Act.put]
    go_wp2_with (fail)
    go_meet
    exact ⟨rfl,HB9⟩
  | true =>
   have Hhs := Lib.hid HQ.out.1
   obtain ⟨c1,hc1⟩ : ∃ c1,decide (k2.high <= k2.key) = c1 := ⟨_,rfl⟩
   have Hc1 := Lib.hid hc1
   have hcf : c1 = false := by
    rw [<- hc1]
    have h1 := HQ.out.2.1
    have h2 := HQ.out.2.2.1
    have h3 := HLt.out rfl
    exact decide_eq_false (by omega)
   have HCf := Lib.hid hcf
   clear hc1 hcf
   refine wp_region_vals [Is (.pointer (some ⟨kb,0,none⟩)),Is (.pointer (some ⟨kb,0,none⟩)),Is (.pointer (some ⟨kb,4,none⟩)),Is (.pointer (some ⟨kb,27,none⟩)),Is (.bool true),Is (.bool true),Is (.pointer (some ⟨kb,0,none⟩)),Is (.pointer (some ⟨kb,0,none⟩)),Is (.pointer (some ⟨kb,2,none⟩)),Is (.int .u64 k2.key),Is (.pointer (some ⟨kb,0,none⟩)),Is (.pointer (some ⟨kb,0,none⟩)),Is (.pointer (some ⟨kb,4,none⟩)),Is (.pointer (some ⟨kb,26,none⟩)),Is (.int .u64 k2.high),Is (.bool c1),Is (.bool c1),Is (.bool c1)]
    (fun _ _ _ => True) (fun _ W => Below w5.heap.size w5 W) (by kernel_rfl) (by kernel_rfl) (by kernel_rfl) ?hst ?h0 ⟨?o0,?o1,?o2,?o3,?o4,?o5,?o6,?o7,?o8,?o9,?o10,?o11,?o12,?o13,?o14,?o15,?o16,?o17,trivial⟩ ?he
   any_goals (intro L vs A W H hf hd K hK)
   case hst => repeat' (first | exact trivial | refine ⟨fun _ _ _ _ _ _ h _ => h,?_⟩)
   case h0 =>
    exact (Below.refl _ w5).drew
   case o0 => have e0 : A.tmps[0]?.getD undef = .pointer (some ⟨kb,0,none⟩) := H.old 0 (by kernel_rfl);go_simp;exact hK _ _ (trivial) rfl (H.glob)
   case o1 => have e60 := H.iz hd 0 60 rfl rfl rfl (by kernel_rfl);go_simp;exact hK _ _ (trivial) rfl (H.glob)
   case o2 => have e61 := H.iz hd 1 61 rfl rfl rfl (by kernel_rfl);go_simp;exact hK _ _ (trivial) rfl (H.glob)
   case o3 => have e62 := H.iz hd 2 62 rfl rfl rfl (by kernel_rfl);go_simp;exact hK _ _ (trivial) rfl (H.glob)
   case o4 => have e63 := H.iz hd 3 63 rfl rfl rfl (by kernel_rfl);have d0 : W.cell? ⟨kb,27,none⟩ = some (.bool true) := (H.glob.cell (p := ⟨kb,27,none⟩) HB5.out.lt).trans ((HB5.out.cell 27).trans ((wk_27 _).trans (by rw [Hhs.out])));go_simp;exact hK _ _ (trivial) rfl (H.glob)
   case o5 => have e64 := H.iz hd 4 64 rfl rfl rfl (by kernel_rfl);go_simp;exact hK _ _ (trivial) rfl (H.glob)
   case o6 => have e65 := H.iz hd 5 65 rfl rfl rfl (by kernel_rfl);refine if_wanted (j := 5) (s := 65) rfl rfl rfl e65 rfl ?_;have e0 : A.tmps[0]?.getD undef = .pointer (some ⟨kb,0,none⟩) := H.old 0 (by kernel_rfl);go_simp;exact hK _ _ (trivial) rfl (H.glob)
   case o7 => have e65 := H.iz hd 5 65 rfl rfl rfl (by kernel_rfl);refine if_wanted (j := 5) (s := 65) rfl rfl rfl e65 rfl ?_;have e66 := H.iz hd 6 66 rfl rfl rfl (by kernel_rfl);go_simp;exact hK _ _ (trivial) rfl (H.glob)
   case o8 => have e65 := H.iz hd 5 65 rfl rfl rfl (by kernel_rfl);refine if_wanted (j := 5) (s := 65) rfl rfl rfl e65 rfl ?_;have e67 := H.iz hd 7 67 rfl rfl rfl (by kernel_rfl);go_simp;exact hK _ _ (trivial) rfl (H.glob)
   case o9 => have e65 := H.iz hd 5 65 rfl rfl rfl (by kernel_rfl);refine if_wanted (j := 5) (s := 65) rfl rfl rfl e65 rfl ?_;have e68 := H.iz hd 8 68 rfl rfl rfl (by kernel_rfl);have d0 : W.cell? ⟨kb,2,none⟩ = some (.int .u64 k2.key) := (H.glob.cell (p := ⟨kb,2,none⟩) HB5.out.lt).trans ((HB5.out.cell 2).trans ((wk_hd _ 2 (by decide)).trans rfl));go_simp;exact hK _ _ (trivial) rfl (H.glob)
   case o10 => have e65 := H.iz hd 5 65 rfl rfl rfl (by kernel_rfl);refine if_wanted (j := 5) (s := 65) rfl rfl rfl e65 rfl ?_;have e0 : A.tmps[0]?.getD undef = .pointer (some ⟨kb,0,none⟩) := H.old 0 (by kernel_rfl);go_simp;exact hK _ _ (trivial) rfl (H.glob)
   case o11 => have e65 := H.iz hd 5 65 rfl rfl rfl (by kernel_rfl);refine if_wanted (j := 5) (s := 65) rfl rfl rfl e65 rfl ?_;have e70 := H.iz hd 10 70 rfl rfl rfl (by kernel_rfl);go_simp;exact hK _ _ (trivial) rfl (H.glob)
   case o12 => have e65 := H.iz hd 5 65 rfl rfl rfl (by kernel_rfl);refine if_wanted (j := 5) (s := 65) rfl rfl rfl e65 rfl ?_;have e71 := H.iz hd 11 71 rfl rfl rfl (by kernel_rfl);go_simp;exact hK _ _ (trivial) rfl (H.glob)
   case o13 => have e65 := H.iz hd 5 65 rfl rfl rfl (by kernel_rfl);refine if_wanted (j := 5) (s := 65) rfl rfl rfl e65 rfl ?_;have e72 := H.iz hd 12 72 rfl rfl rfl (by kernel_rfl);go_simp;exact hK _ _ (trivial) rfl (H.glob)
   case o14 => have e65 := H.iz hd 5 65 rfl rfl rfl (by kernel_rfl);refine if_wanted (j := 5) (s := 65) rfl rfl rfl e65 rfl ?_;have e73 := H.iz hd 13 73 rfl rfl rfl (by kernel_rfl);have d0 : W.cell? ⟨kb,26,none⟩ = some (.int .u64 k2.high) := (H.glob.cell (p := ⟨kb,26,none⟩) HB5.out.lt).trans ((HB5.out.cell 26).trans (wk_26 _));go_simp;exact hK _ _ (trivial) rfl (H.glob)
   case o15 => have e65 := H.iz hd 5 65 rfl rfl rfl (by kernel_rfl);refine if_wanted (j := 5) (s := 65) rfl rfl rfl e65 rfl ?_;have e69 := H.iz hd 9 69 rfl rfl rfl (by kernel_rfl);have e74 := H.iz hd 14 74 rfl rfl rfl (by kernel_rfl);have hq := Hc1.out;go_simp;exact hK _ _ (trivial) rfl (H.glob)
   case o16 => have e65 := H.iz hd 5 65 rfl rfl rfl (by kernel_rfl);have e75 := H.iz hd 15 75 rfl rfl rfl (by kernel_rfl);go_simp;exact hK _ _ (trivial) rfl (H.glob)
   case o17 => have e76 := H.iz hd 16 76 rfl rfl rfl (by kernel_rfl);go_simp;exact hK _ _ (trivial) rfl (H.glob)
   case he =>
    intro vs W hlen hv
    match vs,hlen,hv with
    | [x0_,x1_,x2_,x3_,x4_,x5_,x6_,x7_,x8_,x9_,x10_,x11_,x12_,x13_,x14_,x15_,x16_,x17_],_,hv =>
    obtain rfl := isv hv 0 rfl rfl;obtain rfl := isv hv 1 rfl rfl;obtain rfl := isv hv 2 rfl rfl;obtain rfl := isv hv 3 rfl rfl;obtain rfl := isv hv 4 rfl rfl;obtain rfl := isv hv 5 rfl rfl;obtain rfl := isv hv 6 rfl rfl;obtain rfl := isv hv 7 rfl rfl;obtain rfl := isv hv 8 rfl rfl;obtain rfl := isv hv 9 rfl rfl;obtain rfl := isv hv 10 rfl rfl;obtain rfl := isv hv 11 rfl rfl;obtain rfl := isv hv 12 rfl rfl;obtain rfl := isv hv 13 rfl rfl;obtain rfl := isv hv 14 rfl rfl;obtain rfl := isv hv 15 rfl rfl;obtain rfl := isv hv 16 rfl rfl;obtain rfl := isv hv 17 rfl rfl
    intro L hall hG
    clear hv hlen
    have HB9 := Lib.hid hG
    clear hG hall
    simp only [fill,if_true]
    simp [Act.put]
    go_wp2_with (fail)
    go_meet
    exact ⟨congrArg Value.bool HCf.out,HB9⟩
 case rest =>
  obtain ⟨rfl,HB9⟩ := hcut
  have HB6 := Lib.hid (HB5.out.below HB9.out HB5.out.lt)
  have HK7 := Lib.hid (HK6.out.trans ((Keeps.of_below' HB9.out).mono (fun _ _ h => h.elim)))
  obtain ⟨w6,rfl⟩ : ∃ w6,w6 = wc := ⟨_,rfl⟩
  clear HB5 HK6 HB9
  obtain ⟨c2,hc2⟩ : ∃ c2,decide (k2.level < k2.n.lv) = c2 := ⟨_,rfl⟩
  have Hc2 := Lib.hid hc2
  have hcf : c2 = false := by
   rw [<- hc2]
   have h1 := HQ.out.2.2.2.1
   have h2 := HQ.out.2.2.2.2
   have h3 := HKh.out.2
   exact decide_eq_false (by omega)
  have HCf := Lib.hid hcf
  clear hc2 hcf
  go_wp2_with (fail)
  refine wp_region_vals [Is (.pointer (some ⟨kb,0,none⟩)),Is (.pointer (some ⟨kb,0,none⟩)),Is (.pointer (some ⟨kb,4,none⟩)),Is (.pointer (some ⟨kb,5,none⟩)),Is (.pointer (some ⟨kb,5,none⟩)),Is (.int .i64 k2.n.lv),Is (.pointer (some ⟨kb,0,none⟩)),Is (.pointer (some ⟨kb,0,none⟩)),Is (.pointer (some ⟨kb,3,none⟩)),Is (.int .i64 k2.level),Is (.bool c2),Is (.bool c2)]
   (fun _ _ _ => True) (fun _ W => Below w6.heap.size w6 W) (by kernel_rfl) (by kernel_rfl) (by kernel_rfl) ?hst ?h0 ⟨?o0,?o1,?o2,?o3,?o4,?o5,?o6,?o7,?o8,?o9,?o10,?o11,trivial⟩ ?he
  any_goals (intro L vs A W H hf hd K hK)
  case hst => repeat' (first | exact trivial | refine ⟨fun _ _ _ _ _ _ h _ => h,?_⟩)
  case h0 =>
   exact (Below.refl _ w6).drew
  case o0 => have e0 : A.tmps[0]?.getD undef = .pointer (some ⟨kb,0,none⟩) := H.old 0 (by kernel_rfl);go_simp;exact hK _ _ (trivial) rfl (H.glob)
  case o1 => have e103 := H.iz hd 0 103 rfl rfl rfl (by kernel_rfl);go_simp;exact hK _ _ (trivial) rfl (H.glob)
  case o2 => have e104 := H.iz hd 1 104 rfl rfl rfl (by kernel_rfl);go_simp;exact hK _ _ (trivial) rfl (H.glob)
  case o3 => have e105 := H.iz hd 2 105 rfl rfl rfl (by kernel_rfl);go_simp;exact hK _ _ (trivial) rfl (H.glob)
  case o4 => have e106 := H.iz hd 3 106 rfl rfl rfl (by kernel_rfl);go_simp;exact hK _ _ (trivial) rfl (H.glob)
  case o5 => have e107 := H.iz hd 4 107 rfl rfl rfl (by kernel_rfl);have d0 : W.cell? ⟨kb,5,none⟩ = some (.int .i64 k2.n.lv) := (H.glob.cell (p := ⟨kb,5,none⟩) HB6.out.lt).trans ((HB6.out.cell 5).trans (wk_n _ 0 _ rfl));go_simp;exact hK _ _ (trivial) rfl (H.glob)
  case o6 => have e0 : A.tmps[0]?.getD undef = .pointer (some ⟨kb,0,none⟩) := H.old 0 (by kernel_rfl);go_simp;exact hK _ _ (trivial) rfl (H.glob)
  case o7 => have e109 := H.iz hd 6 109 rfl rfl rfl (by kernel_rfl);go_simp;exact hK _ _ (trivial) rfl (H.glob)
  case o8 => have e110 := H.iz hd 7 110 rfl rfl rfl (by kernel_rfl);go_simp;exact hK _ _ (trivial) rfl (H.glob)
  case o9 => have e111 := H.iz hd 8 111 rfl rfl rfl (by kernel_rfl);have d0 : W.cell? ⟨kb,3,none⟩ = some (.int .i64 k2.level) := (H.glob.cell (p := ⟨kb,3,none⟩) HB6.out.lt).trans ((HB6.out.cell 3).trans ((wk_hd _ 3 (by decide)).trans rfl));go_simp;exact hK _ _ (trivial) rfl (H.glob)
  case o10 => have e108 := H.iz hd 5 108 rfl rfl rfl (by kernel_rfl);have e112 := H.iz hd 9 112 rfl rfl rfl (by kernel_rfl);have hq := Hc2.out;go_simp;exact hK _ _ (trivial) rfl (H.glob)
  case o11 => have e113 := H.iz hd 10 113 rfl rfl rfl (by kernel_rfl);go_simp;exact hK _ _ (trivial) rfl (H.glob)
  case he =>
   intro vs W hlen hv
   match vs,hlen,hv with
   | [x0_,x1_,x2_,x3_,x4_,x5_,x6_,x7_,x8_,x9_,x10_,x11_],_,hv =>
   obtain rfl := isv hv 0 rfl rfl;obtain rfl := isv hv 1 rfl rfl;obtain rfl := isv hv 2 rfl rfl;obtain rfl := isv hv 3 rfl rfl;obtain rfl := isv hv 4 rfl rfl;obtain rfl := isv hv 5 rfl rfl;obtain rfl := isv hv 6 rfl rfl;obtain rfl := isv hv 7 rfl rfl;obtain rfl := isv hv 8 rfl rfl;obtain rfl := isv hv 9 rfl rfl;obtain rfl := isv hv 10 rfl rfl;obtain rfl := isv hv 11 rfl rfl
   intro L hall hG
   clear hv hlen
   have HB10 := Lib.hid hG
   clear hG hall
   simp only [fill,if_true]
   simp [Act.put]
   have hcf := HCf.out
   rw [hcf]
   clear hcf
   have HB7 := Lib.hid (HB6.out.below HB10.out HB6.out.lt)
   have HK8 := Lib.hid (HK7.out.trans ((Keeps.of_below' HB10.out).mono (fun _ _ h => h.elim)))
   obtain ⟨w7,rfl⟩ : ∃ w7,w7 = W := ⟨_,rfl⟩
   clear HB6 HK7 HB10
   obtain ⟨c3,hc3⟩ : ∃ c3,decide (k2.n.lv < k2.level) = c3 := ⟨_,rfl⟩
   have Hc3 := Lib.hid hc3
   have HIf := Lib.hid (show (if s.found.lv < k.level then (5 : Int) else 0) = if c3 = true then 5 else 0 from by
    rw [<- hc3,HQ.out.2.2.2.1,HQ.out.2.2.2.2]
    by_cases h : s.found.lv < k.level
    ·rw [if_pos h,if_pos (decide_eq_true h)]
    ·rw [if_neg h,if_neg (by rw [decide_eq_false h];decide)])
   clear hc3
   go_wp2_with (fail)
   refine wp_region_vals [Is (.pointer (some ⟨kb,0,none⟩)),Is (.pointer (some ⟨kb,0,none⟩)),Is (.pointer (some ⟨kb,4,none⟩)),Is (.pointer (some ⟨kb,5,none⟩)),Is (.pointer (some ⟨kb,5,none⟩)),Is (.int .i64 k2.n.lv),Is (.pointer (some ⟨kb,0,none⟩)),Is (.pointer (some ⟨kb,0,none⟩)),Is (.pointer (some ⟨kb,3,none⟩)),Is (.int .i64 k2.level),Is (.bool c3),Is (.bool c3)]
    (fun _ _ _ => True) (fun _ W => Below w7.heap.size w7 W) (by kernel_rfl) (by kernel_rfl) (by kernel_rfl) ?hst ?h0 ⟨?o0,?o1,?o2,?o3,?o4,?o5,?o6,?o7,?o8,?o9,?o10,?o11,trivial⟩ ?he
   any_goals (intro L vs A W H hf hd K hK)
   case hst => repeat' (first | exact trivial | refine ⟨fun _ _ _ _ _ _ h _ => h,?_⟩)
   case h0 =>
    exact (Below.refl _ w7).drew
   case o0 => have e0 : A.tmps[0]?.getD undef = .pointer (some ⟨kb,0,none⟩) := H.old 0 (by kernel_rfl);go_simp;exact hK _ _ (trivial) rfl (H.glob)
   case o1 => have e127 := H.iz hd 0 127 rfl rfl rfl (by kernel_rfl);go_simp;exact hK _ _ (trivial) rfl (H.glob)
   case o2 => have e128 := H.iz hd 1 128 rfl rfl rfl (by kernel_rfl);go_simp;exact hK _ _ (trivial) rfl (H.glob)
   case o3 => have e129 := H.iz hd 2 129 rfl rfl rfl (by kernel_rfl);go_simp;exact hK _ _ (trivial) rfl (H.glob)
   case o4 => have e130 := H.iz hd 3 130 rfl rfl rfl (by kernel_rfl);go_simp;exact hK _ _ (trivial) rfl (H.glob)
   case o5 => have e131 := H.iz hd 4 131 rfl rfl rfl (by kernel_rfl);have d0 : W.cell? ⟨kb,5,none⟩ = some (.int .i64 k2.n.lv) := (H.glob.cell (p := ⟨kb,5,none⟩) HB7.out.lt).trans ((HB7.out.cell 5).trans (wk_n _ 0 _ rfl));go_simp;exact hK _ _ (trivial) rfl (H.glob)
   case o6 => have e0 : A.tmps[0]?.getD undef = .pointer (some ⟨kb,0,none⟩) := H.old 0 (by kernel_rfl);go_simp;exact hK _ _ (trivial) rfl (H.glob)
   case o7 => have e133 := H.iz hd 6 133 rfl rfl rfl (by kernel_rfl);go_simp;exact hK _ _ (trivial) rfl (H.glob)
   case o8 => have e134 := H.iz hd 7 134 rfl rfl rfl (by kernel_rfl);go_simp;exact hK _ _ (trivial) rfl (H.glob)
   case o9 => have e135 := H.iz hd 8 135 rfl rfl rfl (by kernel_rfl);have d0 : W.cell? ⟨kb,3,none⟩ = some (.int .i64 k2.level) := (H.glob.cell (p := ⟨kb,3,none⟩) HB7.out.lt).trans ((HB7.out.cell 3).trans ((wk_hd _ 3 (by decide)).trans rfl));go_simp;exact hK _ _ (trivial) rfl (H.glob)
   case o10 => have e132 := H.iz hd 5 132 rfl rfl rfl (by kernel_rfl);have e136 := H.iz hd 9 136 rfl rfl rfl (by kernel_rfl);have hq := Hc3.out;go_simp;exact hK _ _ (trivial) rfl (H.glob)
   case o11 => have e137 := H.iz hd 10 137 rfl rfl rfl (by kernel_rfl);go_simp;exact hK _ _ (trivial) rfl (H.glob)
   case he =>
    intro vs W hlen hv
    match vs,hlen,hv with
    | [x0_,x1_,x2_,x3_,x4_,x5_,x6_,x7_,x8_,x9_,x10_,x11_],_,hv =>
    obtain rfl := isv hv 0 rfl rfl;obtain rfl := isv hv 1 rfl rfl;obtain rfl := isv hv 2 rfl rfl;obtain rfl := isv hv 3 rfl rfl;obtain rfl := isv hv 4 rfl rfl;obtain rfl := isv hv 5 rfl rfl;obtain rfl := isv hv 6 rfl rfl;obtain rfl := isv hv 7 rfl rfl;obtain rfl := isv hv 8 rfl rfl;obtain rfl := isv hv 9 rfl rfl;obtain rfl := isv hv 10 rfl rfl;obtain rfl := isv hv 11 rfl rfl
    intro L hall hG
    clear hv hlen
    have HB11 := Lib.hid hG
    clear hG hall
    simp only [fill,if_true]
    simp [Act.put]
    have HBf := Lib.hid (HB7.out.below HB11.out HB7.out.lt)
    have HKf := Lib.hid (HK8.out.trans ((Keeps.of_below' HB11.out).mono (fun _ _ h => h.elim)))
    clear HB7 HK8
    cases c3 with
    | true =>
     go_wp2_with (fail)
     go_ret2
     refine ⟨s,?_,?_,w2,HP.out,HKf.out⟩
     ·rw [HIf.out];rfl
     ·rw [hhp,HK2.out];exact HBf.out
    | false =>
     go_wp2_with (fail)
     go_ret2
     refine ⟨s,?_,?_,w2,HP.out,HKf.out⟩
     ·rw [HIf.out];rfl
     ·rw [hhp,HK2.out];exact HBf.out
end Go.Proofs.YtodgfbjjjgohgaaGreat
