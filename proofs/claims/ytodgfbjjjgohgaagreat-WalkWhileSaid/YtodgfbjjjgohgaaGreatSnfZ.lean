/-
 snap.Snap.Step: a contract.
-/
import Derived.Test.YtodgfbjjjgohgaaGreatSneZ
import Derived.Laws.EntriesVeiled
import Derived.WalkSpells
import Derived.WalkLawsBesides
namespace Go.Proofs.YtodgfbjjjgohgaaGreat
open Go.RowKit
attribute [local go_sem] Oper.semAt_some
set_option linter.unusedVariables false

theorem nil_eq (w : World) : (binOp .eql 61 .nilFunc .nilFunc).run Tryz.prog w = .ok (.bool true) w := by kernel_rfl
theorem fn_eq (f b : Nat) (w : World) : (binOp .eql 61 (.func (.func f) #[.pointer (some ⟨b,0,none⟩)] #[]) .nilFunc).run Tryz.prog w = .ok (.bool false) w := by kernel_rfl
def snOver (s : Sn) (d : Bool) (er : Int) : Sn := { s with over := d || er != 0,e := er }
set_option maxRecDepth 100000 in
set_option maxHeartbeats 40000000 in
theorem step_counts (w : World) (s : Sn) (sb mb : Nat) (S : Nat -> Prop) (vw is : List Int) (mk : Int -> Nat -> Int) (F : Int -> List (Int × Int)) (lo st fl fe : Int) (d : Bool) (er : Int) (s' : Sn) (lo' : Int)
  (hb : Blk w sb (snCells s) 164) (hm : MemP w mb S vw is mk F lo st fl fe) (hS : ¬ S sb) (hmv : s.mv = some ⟨mb,0,none⟩) (hst : s.step = phV sb 88) (hov : s.over = false)
  (hcall : Calls Tryz.prog 88 #[.pointer (some ⟨sb,0,none⟩)] w (SnP w sb mb S vw is mk F st fl fe d er s' lo')) :
  Calls Tryz.prog 124 #[.pointer (some ⟨sb,0,none⟩)] w (SnP w sb mb S vw is mk F st fl fe (d || er != 0) er (snOver s' d er) lo') := by
 have hq1 := nil_eq
 have hq2 := fn_eq 88
 have HSz := Lib.hid (size_m hm)
 have HLd := Lib.hid hcall
 have c0 : w.cell? ⟨sb,0,none⟩ = some (.pointer (some ⟨mb,0,none⟩)) := (hb.cell 0).trans ((sn_0 s).trans (by rw [hmv]))
 have c2 : w.cell? ⟨sb,54,none⟩ = some (.func (.func 88) #[.pointer (some ⟨sb,0,none⟩)] #[]) := (hb.cell 54).trans ((sn_54 s).trans (by rw [hst];rfl))
 have c5 : w.cell? ⟨sb,55,none⟩ = some (.bool false) := (hb.cell 55).trans ((sn_55 s).trans (by rw [hov]))
 have hz : ((8 * (vw.length : Int)) == 0) = false := beq_eq_false_iff_ne.2 (by have := hm.pos;omega)
 have HS := Lib.hid hS
 clear hb hm hmv hst hov hcall hS
 unfold snOver
 obtain ⟨en,hen⟩ : ∃ en,(er != 0) = en := ⟨_,rfl⟩
 go_enter Tryz.func124,Tryz.ntmps124
 go_wp2_with (go_at_call 48;refine HSz.out.mono ?_;rintro e w1 ⟨rfl,rfl⟩)
 refine HLd.out.mono ?_
 rintro e w1 ⟨rfl,hb1,hm1,hk1⟩
 have HEN := Lib.hid hen
 cases d with
 | true =>
  obtain ⟨d5,hd5⟩ : ∃ d5,d5 = true := ⟨_,rfl⟩
  have HD5 := Lib.hid hd5
  have hb5 := (hb1.set 55 (.bool d5)).set 56 (.int .i64 er)
  rw [sn_set55,sn_set56] at hb5
  have f5 : w1.frozen? ⟨sb,55,none⟩ = false := hb1.frozen 55
  have f6 : (w1.setCell ⟨sb,55,none⟩ (.bool d5)).frozen? ⟨sb,56,none⟩ = false := (hb1.set 55 _).frozen 56
  have g5 : w1.cell? ⟨sb,55,none⟩ = some (.bool s'.over) := (hb1.cell 55).trans (sn_55 s')
  have hb6 := hb1.set 55 (.bool d5)
  rw [sn_set55] at hb6
  have g6 : (w1.setCell ⟨sb,55,none⟩ (.bool d5)).cell? ⟨sb,56,none⟩ = some (.int .i64 s'.e) := (hb6.cell 56).trans (sn_56 _)
  have k5 : Keeps (fun k => k = sb) w1 ((w1.setCell ⟨sb,55,none⟩ (.bool d5)).setCell ⟨sb,56,none⟩ (.int .i64 er)) := ((Keeps.refl (fun k => k = sb) w1).setCell (p := ⟨sb,55,none⟩) (.inl rfl) _).setCell (p := ⟨sb,56,none⟩) (.inl rfl) _
  have HB5 := Lib.hid hb5
  have HM5 := Lib.hid (hm1.kept k5 (fun i hi e => HS.out (e ▸ hi)))
  have HK5 := Lib.hid (hk1.trans (k5.mono (fun _ _ h => .inl h)))
  clear hb5 hb6 k5 hb1 hm1 hk1
  rw [HD5.out] at f6 g6 HB5 HM5 HK5
  clear hd5 HD5
  go_wp2_with (fail)
  obtain ⟨b5,hb5⟩ : ∃ b5,b5 = er := ⟨_,rfl⟩
  rw [<- hb5] at HB5 HM5 HK5 ⊢
  have HQ5 := Lib.hid hb5
  obtain ⟨W5,hW5⟩ : ∃ W5,W5 = ((w1.setCell ⟨sb,55,none⟩ (.bool true)).setCell ⟨sb,56,none⟩ (.int .i64 b5)) := ⟨_,rfl⟩
  rw [<- hW5] at HB5 HM5 HK5 ⊢
  have HC5 := Lib.hid (show W5.cell? ⟨sb,55,none⟩ = some (.bool true) /\ W5.cell? ⟨sb,56,none⟩ = some (.int .i64 b5) from ⟨(HB5.out.cell 55).trans (sn_55 _),(HB5.out.cell 56).trans (sn_56 _)⟩)
  clear hW5 f5 f6 g5 g6
  clear hb5 hen
  refine wp_region_vals [Is (.pointer (some ⟨sb,0,none⟩)),Is (.pointer (some ⟨sb,0,none⟩)),Is (.pointer (some ⟨sb,55,none⟩)),Is (.bool true),Is (.pointer (some ⟨sb,0,none⟩)),Is (.pointer (some ⟨sb,0,none⟩)),Is (.pointer (some ⟨sb,56,none⟩)),Is (.int .i64 b5),Is (.bool true),Is (.int .i64 b5)]
   (fun _ _ _ => True) (fun _ W => W = W5.drew) (by kernel_rfl) (by kernel_rfl) (by kernel_rfl) ?hst ?h0 ⟨?o0,?o1,?o2,?o3,?o4,?o5,?o6,?o7,?o8,?o9,trivial⟩ ?he
  any_goals (intro L vs A W H hf hd K hK)
  case hst => repeat' (first | exact trivial | refine ⟨fun _ _ _ _ _ _ h _ => h,?_⟩)
  case h0 =>
   exact rfl
  case o0 => have e0 : A.tmps[0]?.getD undef = .pointer (some ⟨sb,0,none⟩) := H.old 0 (by kernel_rfl);go_simp;exact hK _ _ (trivial) rfl (H.glob)
  case o1 => have e54 := H.iz hd 0 54 rfl rfl rfl (by kernel_rfl);go_simp;exact hK _ _ (trivial) rfl (H.glob)
  case o2 => have e55 := H.iz hd 1 55 rfl rfl rfl (by kernel_rfl);go_simp;exact hK _ _ (trivial) rfl (H.glob)
  case o3 => have e56 := H.iz hd 2 56 rfl rfl rfl (by kernel_rfl);have d : W.cell? ⟨sb,55,none⟩ = some (.bool true) := (by rw [H.glob];exact HC5.out.1);go_simp;exact hK _ _ (trivial) rfl (H.glob)
  case o4 => have e0 : A.tmps[0]?.getD undef = .pointer (some ⟨sb,0,none⟩) := H.old 0 (by kernel_rfl);go_simp;exact hK _ _ (trivial) rfl (H.glob)
  case o5 => have e58 := H.iz hd 4 58 rfl rfl rfl (by kernel_rfl);go_simp;exact hK _ _ (trivial) rfl (H.glob)
  case o6 => have e59 := H.iz hd 5 59 rfl rfl rfl (by kernel_rfl);go_simp;exact hK _ _ (trivial) rfl (H.glob)
  case o7 => have e60 := H.iz hd 6 60 rfl rfl rfl (by kernel_rfl);have d : W.cell? ⟨sb,56,none⟩ = some (.int .i64 b5) := (by rw [H.glob];exact HC5.out.2);go_simp;exact hK _ _ (trivial) rfl (H.glob)
  case o8 => have e57 := H.iz hd 3 57 rfl rfl rfl (by kernel_rfl);go_simp;exact hK _ _ (trivial) rfl (H.glob)
  case o9 => have e61 := H.iz hd 7 61 rfl rfl rfl (by kernel_rfl);go_simp;exact hK _ _ (trivial) rfl (H.glob)
  case he =>
   intro vs W hlen hv
   match vs,hlen,hv with
   | [x0_,x1_,x2_,x3_,x4_,x5_,x6_,x7_,x8_,x9_],_,hv =>
   obtain rfl := isv hv 0 rfl rfl;obtain rfl := isv hv 1 rfl rfl;obtain rfl := isv hv 2 rfl rfl;obtain rfl := isv hv 3 rfl rfl;obtain rfl := isv hv 4 rfl rfl;obtain rfl := isv hv 5 rfl rfl;obtain rfl := isv hv 6 rfl rfl;obtain rfl := isv hv 7 rfl rfl;obtain rfl := isv hv 8 rfl rfl;obtain rfl := isv hv 9 rfl rfl
   intro L hall hG
   clear hv hlen
   have HW := hG
   clear hG hall
   subst HW
   simp only [fill,if_true]
   simp [Act.put]
   go_wp2_with (fail)
   go_ret2
   rw [Bool.true_or]
   refine ⟨by rw [HQ5.out];rfl,?_,HM5.out.below (Below.refl _ _).drew,HK5.out.drew⟩
   rw [<- HQ5.out]
   exact HB5.out.drew
 | false =>
  obtain ⟨d5,hd5⟩ : ∃ d5,d5 = en := ⟨_,rfl⟩
  have HD5 := Lib.hid hd5
  have hb5 := (hb1.set 55 (.bool d5)).set 56 (.int .i64 er)
  rw [sn_set55,sn_set56] at hb5
  have f5 : w1.frozen? ⟨sb,55,none⟩ = false := hb1.frozen 55
  have f6 : (w1.setCell ⟨sb,55,none⟩ (.bool d5)).frozen? ⟨sb,56,none⟩ = false := (hb1.set 55 _).frozen 56
  have g5 : w1.cell? ⟨sb,55,none⟩ = some (.bool s'.over) := (hb1.cell 55).trans (sn_55 s')
  have hb6 := hb1.set 55 (.bool d5)
  rw [sn_set55] at hb6
  have g6 : (w1.setCell ⟨sb,55,none⟩ (.bool d5)).cell? ⟨sb,56,none⟩ = some (.int .i64 s'.e) := (hb6.cell 56).trans (sn_56 _)
  have k5 : Keeps (fun k => k = sb) w1 ((w1.setCell ⟨sb,55,none⟩ (.bool d5)).setCell ⟨sb,56,none⟩ (.int .i64 er)) := ((Keeps.refl (fun k => k = sb) w1).setCell (p := ⟨sb,55,none⟩) (.inl rfl) _).setCell (p := ⟨sb,56,none⟩) (.inl rfl) _
  have HB5 := Lib.hid hb5
  have HM5 := Lib.hid (hm1.kept k5 (fun i hi e => HS.out (e ▸ hi)))
  have HK5 := Lib.hid (hk1.trans (k5.mono (fun _ _ h => .inl h)))
  clear hb5 hb6 k5 hb1 hm1 hk1
  rw [HD5.out] at f6 g6 HB5 HM5 HK5
  clear hd5 HD5
  go_wp2_with (fail)
  obtain ⟨d5,hd5⟩ : ∃ d5,d5 = en := ⟨_,rfl⟩
  obtain ⟨b5,hb5⟩ : ∃ b5,b5 = er := ⟨_,rfl⟩
  rw [<- hd5,<- hb5] at HB5 HM5 HK5 ⊢
  have HD5 := Lib.hid hd5
  have HQ5 := Lib.hid hb5
  obtain ⟨W5,hW5⟩ : ∃ W5,W5 = ((w1.setCell ⟨sb,55,none⟩ (.bool d5)).setCell ⟨sb,56,none⟩ (.int .i64 b5)) := ⟨_,rfl⟩
  rw [<- hW5] at HB5 HM5 HK5 ⊢
  have HC5 := Lib.hid (show W5.cell? ⟨sb,55,none⟩ = some (.bool d5) /\ W5.cell? ⟨sb,56,none⟩ = some (.int .i64 b5) from ⟨(HB5.out.cell 55).trans (sn_55 _),(HB5.out.cell 56).trans (sn_56 _)⟩)
  clear hW5 f5 f6 g5 g6
  clear hd5 hb5 hen
  refine wp_region_vals [Is (.pointer (some ⟨sb,0,none⟩)),Is (.pointer (some ⟨sb,0,none⟩)),Is (.pointer (some ⟨sb,55,none⟩)),Is (.bool d5),Is (.pointer (some ⟨sb,0,none⟩)),Is (.pointer (some ⟨sb,0,none⟩)),Is (.pointer (some ⟨sb,56,none⟩)),Is (.int .i64 b5),Is (.bool d5),Is (.int .i64 b5)]
   (fun _ _ _ => True) (fun _ W => W = W5.drew) (by kernel_rfl) (by kernel_rfl) (by kernel_rfl) ?hst ?h0 ⟨?o0,?o1,?o2,?o3,?o4,?o5,?o6,?o7,?o8,?o9,trivial⟩ ?he
  any_goals (intro L vs A W H hf hd K hK)
  case hst => repeat' (first | exact trivial | refine ⟨fun _ _ _ _ _ _ h _ => h,?_⟩)
  case h0 =>
   exact rfl
  case o0 => have e0 : A.tmps[0]?.getD undef = .pointer (some ⟨sb,0,none⟩) := H.old 0 (by kernel_rfl);go_simp;exact hK _ _ (trivial) rfl (H.glob)
  case o1 => have e54 := H.iz hd 0 54 rfl rfl rfl (by kernel_rfl);go_simp;exact hK _ _ (trivial) rfl (H.glob)
  case o2 => have e55 := H.iz hd 1 55 rfl rfl rfl (by kernel_rfl);go_simp;exact hK _ _ (trivial) rfl (H.glob)
  case o3 => have e56 := H.iz hd 2 56 rfl rfl rfl (by kernel_rfl);have d : W.cell? ⟨sb,55,none⟩ = some (.bool d5) := (by rw [H.glob];exact HC5.out.1);go_simp;exact hK _ _ (trivial) rfl (H.glob)
  case o4 => have e0 : A.tmps[0]?.getD undef = .pointer (some ⟨sb,0,none⟩) := H.old 0 (by kernel_rfl);go_simp;exact hK _ _ (trivial) rfl (H.glob)
  case o5 => have e58 := H.iz hd 4 58 rfl rfl rfl (by kernel_rfl);go_simp;exact hK _ _ (trivial) rfl (H.glob)
  case o6 => have e59 := H.iz hd 5 59 rfl rfl rfl (by kernel_rfl);go_simp;exact hK _ _ (trivial) rfl (H.glob)
  case o7 => have e60 := H.iz hd 6 60 rfl rfl rfl (by kernel_rfl);have d : W.cell? ⟨sb,56,none⟩ = some (.int .i64 b5) := (by rw [H.glob];exact HC5.out.2);go_simp;exact hK _ _ (trivial) rfl (H.glob)
  case o8 => have e57 := H.iz hd 3 57 rfl rfl rfl (by kernel_rfl);go_simp;exact hK _ _ (trivial) rfl (H.glob)
  case o9 => have e61 := H.iz hd 7 61 rfl rfl rfl (by kernel_rfl);go_simp;exact hK _ _ (trivial) rfl (H.glob)
  case he =>
   intro vs W hlen hv
   match vs,hlen,hv with
   | [x0_,x1_,x2_,x3_,x4_,x5_,x6_,x7_,x8_,x9_],_,hv =>
   obtain rfl := isv hv 0 rfl rfl;obtain rfl := isv hv 1 rfl rfl;obtain rfl := isv hv 2 rfl rfl;obtain rfl := isv hv 3 rfl rfl;obtain rfl := isv hv 4 rfl rfl;obtain rfl := isv hv 5 rfl rfl;obtain rfl := isv hv 6 rfl rfl;obtain rfl := isv hv 7 rfl rfl;obtain rfl := isv hv 8 rfl rfl;obtain rfl := isv hv 9 rfl rfl
   intro L hall hG
   clear hv hlen
   have HW := hG
   clear hG hall
   subst HW
   simp only [fill,if_true]
   simp [Act.put]
   go_wp2_with (fail)
   go_ret2
   rw [Bool.false_or]
   refine ⟨by rw [HD5.out,HQ5.out,HEN.out];rfl,?_,HM5.out.below (Below.refl _ _).drew,HK5.out.drew⟩
   rw [HEN.out,<- HD5.out,<- HQ5.out]
   exact HB5.out.drew
set_option maxRecDepth 100000 in
set_option maxHeartbeats 40000000 in
theorem step_reads (w : World) (s : Sn) (sb mb : Nat) (S : Nat -> Prop) (vw is : List Int) (mk : Int -> Nat -> Int) (F : Int -> List (Int × Int)) (lo st fl fe : Int) (d : Bool) (er : Int) (s' : Sn) (lo' : Int)
  (hb : Blk w sb (snCells s) 164) (hm : MemP w mb S vw is mk F lo st fl fe) (hS : ¬ S sb) (hmv : s.mv = some ⟨mb,0,none⟩) (hst : s.step = phV sb 92) (hov : s.over = false)
  (hcall : Calls Tryz.prog 92 #[.pointer (some ⟨sb,0,none⟩)] w (SnP w sb mb S vw is mk F st fl fe d er s' lo')) :
  Calls Tryz.prog 124 #[.pointer (some ⟨sb,0,none⟩)] w (SnP w sb mb S vw is mk F st fl fe (d || er != 0) er (snOver s' d er) lo') := by
 have hq1 := nil_eq
 have hq2 := fn_eq 92
 have HSz := Lib.hid (size_m hm)
 have HLd := Lib.hid hcall
 have c0 : w.cell? ⟨sb,0,none⟩ = some (.pointer (some ⟨mb,0,none⟩)) := (hb.cell 0).trans ((sn_0 s).trans (by rw [hmv]))
 have c2 : w.cell? ⟨sb,54,none⟩ = some (.func (.func 92) #[.pointer (some ⟨sb,0,none⟩)] #[]) := (hb.cell 54).trans ((sn_54 s).trans (by rw [hst];rfl))
 have c5 : w.cell? ⟨sb,55,none⟩ = some (.bool false) := (hb.cell 55).trans ((sn_55 s).trans (by rw [hov]))
 have hz : ((8 * (vw.length : Int)) == 0) = false := beq_eq_false_iff_ne.2 (by have := hm.pos;omega)
 have HS := Lib.hid hS
 clear hb hm hmv hst hov hcall hS
 unfold snOver
 obtain ⟨en,hen⟩ : ∃ en,(er != 0) = en := ⟨_,rfl⟩
 go_enter Tryz.func124,Tryz.ntmps124
 go_wp2_with (go_at_call 48;refine HSz.out.mono ?_;rintro e w1 ⟨rfl,rfl⟩)
 refine HLd.out.mono ?_
 rintro e w1 ⟨rfl,hb1,hm1,hk1⟩
 have HEN := Lib.hid hen
 cases d with
 | true =>
  obtain ⟨d5,hd5⟩ : ∃ d5,d5 = true := ⟨_,rfl⟩
  have HD5 := Lib.hid hd5
  have hb5 := (hb1.set 55 (.bool d5)).set 56 (.int .i64 er)
  rw [sn_set55,sn_set56] at hb5
  have f5 : w1.frozen? ⟨sb,55,none⟩ = false := hb1.frozen 55
  have f6 : (w1.setCell ⟨sb,55,none⟩ (.bool d5)).frozen? ⟨sb,56,none⟩ = false := (hb1.set 55 _).frozen 56
  have g5 : w1.cell? ⟨sb,55,none⟩ = some (.bool s'.over) := (hb1.cell 55).trans (sn_55 s')
  have hb6 := hb1.set 55 (.bool d5)
  rw [sn_set55] at hb6
  have g6 : (w1.setCell ⟨sb,55,none⟩ (.bool d5)).cell? ⟨sb,56,none⟩ = some (.int .i64 s'.e) := (hb6.cell 56).trans (sn_56 _)
  have k5 : Keeps (fun k => k = sb) w1 ((w1.setCell ⟨sb,55,none⟩ (.bool d5)).setCell ⟨sb,56,none⟩ (.int .i64 er)) := ((Keeps.refl (fun k => k = sb) w1).setCell (p := ⟨sb,55,none⟩) (.inl rfl) _).setCell (p := ⟨sb,56,none⟩) (.inl rfl) _
  have HB5 := Lib.hid hb5
  have HM5 := Lib.hid (hm1.kept k5 (fun i hi e => HS.out (e ▸ hi)))
  have HK5 := Lib.hid (hk1.trans (k5.mono (fun _ _ h => .inl h)))
  clear hb5 hb6 k5 hb1 hm1 hk1
  rw [HD5.out] at f6 g6 HB5 HM5 HK5
  clear hd5 HD5
  go_wp2_with (fail)
  obtain ⟨b5,hb5⟩ : ∃ b5,b5 = er := ⟨_,rfl⟩
  rw [<- hb5] at HB5 HM5 HK5 ⊢
  have HQ5 := Lib.hid hb5
  obtain ⟨W5,hW5⟩ : ∃ W5,W5 = ((w1.setCell ⟨sb,55,none⟩ (.bool true)).setCell ⟨sb,56,none⟩ (.int .i64 b5)) := ⟨_,rfl⟩
  rw [<- hW5] at HB5 HM5 HK5 ⊢
  have HC5 := Lib.hid (show W5.cell? ⟨sb,55,none⟩ = some (.bool true) /\ W5.cell? ⟨sb,56,none⟩ = some (.int .i64 b5) from ⟨(HB5.out.cell 55).trans (sn_55 _),(HB5.out.cell 56).trans (sn_56 _)⟩)
  clear hW5 f5 f6 g5 g6
  clear hb5 hen
  refine wp_region_vals [Is (.pointer (some ⟨sb,0,none⟩)),Is (.pointer (some ⟨sb,0,none⟩)),Is (.pointer (some ⟨sb,55,none⟩)),Is (.bool true),Is (.pointer (some ⟨sb,0,none⟩)),Is (.pointer (some ⟨sb,0,none⟩)),Is (.pointer (some ⟨sb,56,none⟩)),Is (.int .i64 b5),Is (.bool true),Is (.int .i64 b5)]
   (fun _ _ _ => True) (fun _ W => W = W5.drew) (by kernel_rfl) (by kernel_rfl) (by kernel_rfl) ?hst ?h0 ⟨?o0,?o1,?o2,?o3,?o4,?o5,?o6,?o7,?o8,?o9,trivial⟩ ?he
  any_goals (intro L vs A W H hf hd K hK)
  case hst => repeat' (first | exact trivial | refine ⟨fun _ _ _ _ _ _ h _ => h,?_⟩)
  case h0 =>
   exact rfl
  case o0 => have e0 : A.tmps[0]?.getD undef = .pointer (some ⟨sb,0,none⟩) := H.old 0 (by kernel_rfl);go_simp;exact hK _ _ (trivial) rfl (H.glob)
  case o1 => have e54 := H.iz hd 0 54 rfl rfl rfl (by kernel_rfl);go_simp;exact hK _ _ (trivial) rfl (H.glob)
  case o2 => have e55 := H.iz hd 1 55 rfl rfl rfl (by kernel_rfl);go_simp;exact hK _ _ (trivial) rfl (H.glob)
  case o3 => have e56 := H.iz hd 2 56 rfl rfl rfl (by kernel_rfl);have d : W.cell? ⟨sb,55,none⟩ = some (.bool true) := (by rw [H.glob];exact HC5.out.1);go_simp;exact hK _ _ (trivial) rfl (H.glob)
  case o4 => have e0 : A.tmps[0]?.getD undef = .pointer (some ⟨sb,0,none⟩) := H.old 0 (by kernel_rfl);go_simp;exact hK _ _ (trivial) rfl (H.glob)
  case o5 => have e58 := H.iz hd 4 58 rfl rfl rfl (by kernel_rfl);go_simp;exact hK _ _ (trivial) rfl (H.glob)
  case o6 => have e59 := H.iz hd 5 59 rfl rfl rfl (by kernel_rfl);go_simp;exact hK _ _ (trivial) rfl (H.glob)
  case o7 => have e60 := H.iz hd 6 60 rfl rfl rfl (by kernel_rfl);have d : W.cell? ⟨sb,56,none⟩ = some (.int .i64 b5) := (by rw [H.glob];exact HC5.out.2);go_simp;exact hK _ _ (trivial) rfl (H.glob)
  case o8 => have e57 := H.iz hd 3 57 rfl rfl rfl (by kernel_rfl);go_simp;exact hK _ _ (trivial) rfl (H.glob)
  case o9 => have e61 := H.iz hd 7 61 rfl rfl rfl (by kernel_rfl);go_simp;exact hK _ _ (trivial) rfl (H.glob)
  case he =>
   intro vs W hlen hv
   match vs,hlen,hv with
   | [x0_,x1_,x2_,x3_,x4_,x5_,x6_,x7_,x8_,x9_],_,hv =>
   obtain rfl := isv hv 0 rfl rfl;obtain rfl := isv hv 1 rfl rfl;obtain rfl := isv hv 2 rfl rfl;obtain rfl := isv hv 3 rfl rfl;obtain rfl := isv hv 4 rfl rfl;obtain rfl := isv hv 5 rfl rfl;obtain rfl := isv hv 6 rfl rfl;obtain rfl := isv hv 7 rfl rfl;obtain rfl := isv hv 8 rfl rfl;obtain rfl := isv hv 9 rfl rfl
   intro L hall hG
   clear hv hlen
   have HW := hG
   clear hG hall
   subst HW
   simp only [fill,if_true]
   simp [Act.put]
   go_wp2_with (fail)
   go_ret2
   rw [Bool.true_or]
   refine ⟨by rw [HQ5.out];rfl,?_,HM5.out.below (Below.refl _ _).drew,HK5.out.drew⟩
   rw [<- HQ5.out]
   exact HB5.out.drew
 | false =>
  obtain ⟨d5,hd5⟩ : ∃ d5,d5 = en := ⟨_,rfl⟩
  have HD5 := Lib.hid hd5
  have hb5 := (hb1.set 55 (.bool d5)).set 56 (.int .i64 er)
  rw [sn_set55,sn_set56] at hb5
  have f5 : w1.frozen? ⟨sb,55,none⟩ = false := hb1.frozen 55
  have f6 : (w1.setCell ⟨sb,55,none⟩ (.bool d5)).frozen? ⟨sb,56,none⟩ = false := (hb1.set 55 _).frozen 56
  have g5 : w1.cell? ⟨sb,55,none⟩ = some (.bool s'.over) := (hb1.cell 55).trans (sn_55 s')
  have hb6 := hb1.set 55 (.bool d5)
  rw [sn_set55] at hb6
  have g6 : (w1.setCell ⟨sb,55,none⟩ (.bool d5)).cell? ⟨sb,56,none⟩ = some (.int .i64 s'.e) := (hb6.cell 56).trans (sn_56 _)
  have k5 : Keeps (fun k => k = sb) w1 ((w1.setCell ⟨sb,55,none⟩ (.bool d5)).setCell ⟨sb,56,none⟩ (.int .i64 er)) := ((Keeps.refl (fun k => k = sb) w1).setCell (p := ⟨sb,55,none⟩) (.inl rfl) _).setCell (p := ⟨sb,56,none⟩) (.inl rfl) _
  have HB5 := Lib.hid hb5
  have HM5 := Lib.hid (hm1.kept k5 (fun i hi e => HS.out (e ▸ hi)))
  have HK5 := Lib.hid (hk1.trans (k5.mono (fun _ _ h => .inl h)))
  clear hb5 hb6 k5 hb1 hm1 hk1
  rw [HD5.out] at f6 g6 HB5 HM5 HK5
  clear hd5 HD5
  go_wp2_with (fail)
  obtain ⟨d5,hd5⟩ : ∃ d5,d5 = en := ⟨_,rfl⟩
  obtain ⟨b5,hb5⟩ : ∃ b5,b5 = er := ⟨_,rfl⟩
  rw [<- hd5,<- hb5] at HB5 HM5 HK5 ⊢
  have HD5 := Lib.hid hd5
  have HQ5 := Lib.hid hb5
  obtain ⟨W5,hW5⟩ : ∃ W5,W5 = ((w1.setCell ⟨sb,55,none⟩ (.bool d5)).setCell ⟨sb,56,none⟩ (.int .i64 b5)) := ⟨_,rfl⟩
  rw [<- hW5] at HB5 HM5 HK5 ⊢
  have HC5 := Lib.hid (show W5.cell? ⟨sb,55,none⟩ = some (.bool d5) /\ W5.cell? ⟨sb,56,none⟩ = some (.int .i64 b5) from ⟨(HB5.out.cell 55).trans (sn_55 _),(HB5.out.cell 56).trans (sn_56 _)⟩)
  clear hW5 f5 f6 g5 g6
  clear hd5 hb5 hen
  refine wp_region_vals [Is (.pointer (some ⟨sb,0,none⟩)),Is (.pointer (some ⟨sb,0,none⟩)),Is (.pointer (some ⟨sb,55,none⟩)),Is (.bool d5),Is (.pointer (some ⟨sb,0,none⟩)),Is (.pointer (some ⟨sb,0,none⟩)),Is (.pointer (some ⟨sb,56,none⟩)),Is (.int .i64 b5),Is (.bool d5),Is (.int .i64 b5)]
   (fun _ _ _ => True) (fun _ W => W = W5.drew) (by kernel_rfl) (by kernel_rfl) (by kernel_rfl) ?hst ?h0 ⟨?o0,?o1,?o2,?o3,?o4,?o5,?o6,?o7,?o8,?o9,trivial⟩ ?he
  any_goals (intro L vs A W H hf hd K hK)
  case hst => repeat' (first | exact trivial | refine ⟨fun _ _ _ _ _ _ h _ => h,?_⟩)
  case h0 =>
   exact rfl
  case o0 => have e0 : A.tmps[0]?.getD undef = .pointer (some ⟨sb,0,none⟩) := H.old 0 (by kernel_rfl);go_simp;exact hK _ _ (trivial) rfl (H.glob)
  case o1 => have e54 := H.iz hd 0 54 rfl rfl rfl (by kernel_rfl);go_simp;exact hK _ _ (trivial) rfl (H.glob)
  case o2 => have e55 := H.iz hd 1 55 rfl rfl rfl (by kernel_rfl);go_simp;exact hK _ _ (trivial) rfl (H.glob)
  case o3 => have e56 := H.iz hd 2 56 rfl rfl rfl (by kernel_rfl);have d : W.cell? ⟨sb,55,none⟩ = some (.bool d5) := (by rw [H.glob];exact HC5.out.1);go_simp;exact hK _ _ (trivial) rfl (H.glob)
  case o4 => have e0 : A.tmps[0]?.getD undef = .pointer (some ⟨sb,0,none⟩) := H.old 0 (by kernel_rfl);go_simp;exact hK _ _ (trivial) rfl (H.glob)
  case o5 => have e58 := H.iz hd 4 58 rfl rfl rfl (by kernel_rfl);go_simp;exact hK _ _ (trivial) rfl (H.glob)
  case o6 => have e59 := H.iz hd 5 59 rfl rfl rfl (by kernel_rfl);go_simp;exact hK _ _ (trivial) rfl (H.glob)
  case o7 => have e60 := H.iz hd 6 60 rfl rfl rfl (by kernel_rfl);have d : W.cell? ⟨sb,56,none⟩ = some (.int .i64 b5) := (by rw [H.glob];exact HC5.out.2);go_simp;exact hK _ _ (trivial) rfl (H.glob)
  case o8 => have e57 := H.iz hd 3 57 rfl rfl rfl (by kernel_rfl);go_simp;exact hK _ _ (trivial) rfl (H.glob)
  case o9 => have e61 := H.iz hd 7 61 rfl rfl rfl (by kernel_rfl);go_simp;exact hK _ _ (trivial) rfl (H.glob)
  case he =>
   intro vs W hlen hv
   match vs,hlen,hv with
   | [x0_,x1_,x2_,x3_,x4_,x5_,x6_,x7_,x8_,x9_],_,hv =>
   obtain rfl := isv hv 0 rfl rfl;obtain rfl := isv hv 1 rfl rfl;obtain rfl := isv hv 2 rfl rfl;obtain rfl := isv hv 3 rfl rfl;obtain rfl := isv hv 4 rfl rfl;obtain rfl := isv hv 5 rfl rfl;obtain rfl := isv hv 6 rfl rfl;obtain rfl := isv hv 7 rfl rfl;obtain rfl := isv hv 8 rfl rfl;obtain rfl := isv hv 9 rfl rfl
   intro L hall hG
   clear hv hlen
   have HW := hG
   clear hG hall
   subst HW
   simp only [fill,if_true]
   simp [Act.put]
   go_wp2_with (fail)
   go_ret2
   rw [Bool.false_or]
   refine ⟨by rw [HD5.out,HQ5.out,HEN.out];rfl,?_,HM5.out.below (Below.refl _ _).drew,HK5.out.drew⟩
   rw [HEN.out,<- HD5.out,<- HQ5.out]
   exact HB5.out.drew
set_option maxRecDepth 100000 in
set_option maxHeartbeats 40000000 in
theorem step_bound (w : World) (s : Sn) (sb mb : Nat) (S : Nat -> Prop) (vw is : List Int) (mk : Int -> Nat -> Int) (F : Int -> List (Int × Int)) (lo st fl fe : Int) (d : Bool) (er : Int) (s' : Sn) (lo' : Int)
  (hb : Blk w sb (snCells s) 164) (hm : MemP w mb S vw is mk F lo st fl fe) (hS : ¬ S sb) (hmv : s.mv = some ⟨mb,0,none⟩) (hst : s.step = phV sb 95) (hov : s.over = false)
  (hcall : Calls Tryz.prog 95 #[.pointer (some ⟨sb,0,none⟩)] w (SnP w sb mb S vw is mk F st fl fe d er s' lo')) :
  Calls Tryz.prog 124 #[.pointer (some ⟨sb,0,none⟩)] w (SnP w sb mb S vw is mk F st fl fe (d || er != 0) er (snOver s' d er) lo') := by
 have hq1 := nil_eq
 have hq2 := fn_eq 95
 have HSz := Lib.hid (size_m hm)
 have HLd := Lib.hid hcall
 have c0 : w.cell? ⟨sb,0,none⟩ = some (.pointer (some ⟨mb,0,none⟩)) := (hb.cell 0).trans ((sn_0 s).trans (by rw [hmv]))
 have c2 : w.cell? ⟨sb,54,none⟩ = some (.func (.func 95) #[.pointer (some ⟨sb,0,none⟩)] #[]) := (hb.cell 54).trans ((sn_54 s).trans (by rw [hst];rfl))
 have c5 : w.cell? ⟨sb,55,none⟩ = some (.bool false) := (hb.cell 55).trans ((sn_55 s).trans (by rw [hov]))
 have hz : ((8 * (vw.length : Int)) == 0) = false := beq_eq_false_iff_ne.2 (by have := hm.pos;omega)
 have HS := Lib.hid hS
 clear hb hm hmv hst hov hcall hS
 unfold snOver
 obtain ⟨en,hen⟩ : ∃ en,(er != 0) = en := ⟨_,rfl⟩
 go_enter Tryz.func124,Tryz.ntmps124
 go_wp2_with (go_at_call 48;refine HSz.out.mono ?_;rintro e w1 ⟨rfl,rfl⟩)
 refine HLd.out.mono ?_
 rintro e w1 ⟨rfl,hb1,hm1,hk1⟩
 have HEN := Lib.hid hen
 cases d with
 | true =>
  obtain ⟨d5,hd5⟩ : ∃ d5,d5 = true := ⟨_,rfl⟩
  have HD5 := Lib.hid hd5
  have hb5 := (hb1.set 55 (.bool d5)).set 56 (.int .i64 er)
  rw [sn_set55,sn_set56] at hb5
  have f5 : w1.frozen? ⟨sb,55,none⟩ = false := hb1.frozen 55
  have f6 : (w1.setCell ⟨sb,55,none⟩ (.bool d5)).frozen? ⟨sb,56,none⟩ = false := (hb1.set 55 _).frozen 56
  have g5 : w1.cell? ⟨sb,55,none⟩ = some (.bool s'.over) := (hb1.cell 55).trans (sn_55 s')
  have hb6 := hb1.set 55 (.bool d5)
  rw [sn_set55] at hb6
  have g6 : (w1.setCell ⟨sb,55,none⟩ (.bool d5)).cell? ⟨sb,56,none⟩ = some (.int .i64 s'.e) := (hb6.cell 56).trans (sn_56 _)
  have k5 : Keeps (fun k => k = sb) w1 ((w1.setCell ⟨sb,55,none⟩ (.bool d5)).setCell ⟨sb,56,none⟩ (.int .i64 er)) := ((Keeps.refl (fun k => k = sb) w1).setCell (p := ⟨sb,55,none⟩) (.inl rfl) _).setCell (p := ⟨sb,56,none⟩) (.inl rfl) _
  have HB5 := Lib.hid hb5
  have HM5 := Lib.hid (hm1.kept k5 (fun i hi e => HS.out (e ▸ hi)))
  have HK5 := Lib.hid (hk1.trans (k5.mono (fun _ _ h => .inl h)))
  clear hb5 hb6 k5 hb1 hm1 hk1
  rw [HD5.out] at f6 g6 HB5 HM5 HK5
  clear hd5 HD5
  go_wp2_with (fail)
  obtain ⟨b5,hb5⟩ : ∃ b5,b5 = er := ⟨_,rfl⟩
  rw [<- hb5] at HB5 HM5 HK5 ⊢
  have HQ5 := Lib.hid hb5
  obtain ⟨W5,hW5⟩ : ∃ W5,W5 = ((w1.setCell ⟨sb,55,none⟩ (.bool true)).setCell ⟨sb,56,none⟩ (.int .i64 b5)) := ⟨_,rfl⟩
  rw [<- hW5] at HB5 HM5 HK5 ⊢
  have HC5 := Lib.hid (show W5.cell? ⟨sb,55,none⟩ = some (.bool true) /\ W5.cell? ⟨sb,56,none⟩ = some (.int .i64 b5) from ⟨(HB5.out.cell 55).trans (sn_55 _),(HB5.out.cell 56).trans (sn_56 _)⟩)
  clear hW5 f5 f6 g5 g6
  clear hb5 hen
  refine wp_region_vals [Is (.pointer (some ⟨sb,0,none⟩)),Is (.pointer (some ⟨sb,0,none⟩)),Is (.pointer (some ⟨sb,55,none⟩)),Is (.bool true),Is (.pointer (some ⟨sb,0,none⟩)),Is (.pointer (some ⟨sb,0,none⟩)),Is (.pointer (some ⟨sb,56,none⟩)),Is (.int .i64 b5),Is (.bool true),Is (.int .i64 b5)]
   (fun _ _ _ => True) (fun _ W => W = W5.drew) (by kernel_rfl) (by kernel_rfl) (by kernel_rfl) ?hst ?h0 ⟨?o0,?o1,?o2,?o3,?o4,?o5,?o6,?o7,?o8,?o9,trivial⟩ ?he
  any_goals (intro L vs A W H hf hd K hK)
  case hst => repeat' (first | exact trivial | refine ⟨fun _ _ _ _ _ _ h _ => h,?_⟩)
  case h0 =>
   exact rfl
  case o0 => have e0 : A.tmps[0]?.getD undef = .pointer (some ⟨sb,0,none⟩) := H.old 0 (by kernel_rfl);go_simp;exact hK _ _ (trivial) rfl (H.glob)
  case o1 => have e54 := H.iz hd 0 54 rfl rfl rfl (by kernel_rfl);go_simp;exact hK _ _ (trivial) rfl (H.glob)
  case o2 => have e55 := H.iz hd 1 55 rfl rfl rfl (by kernel_rfl);go_simp;exact hK _ _ (trivial) rfl (H.glob)
  case o3 => have e56 := H.iz hd 2 56 rfl rfl rfl (by kernel_rfl);have d : W.cell? ⟨sb,55,none⟩ = some (.bool true) := (by rw [H.glob];exact HC5.out.1);go_simp;exact hK _ _ (trivial) rfl (H.glob)
  case o4 => have e0 : A.tmps[0]?.getD undef = .pointer (some ⟨sb,0,none⟩) := H.old 0 (by kernel_rfl);go_simp;exact hK _ _ (trivial) rfl (H.glob)
  case o5 => have e58 := H.iz hd 4 58 rfl rfl rfl (by kernel_rfl);go_simp;exact hK _ _ (trivial) rfl (H.glob)
  case o6 => have e59 := H.iz hd 5 59 rfl rfl rfl (by kernel_rfl);go_simp;exact hK _ _ (trivial) rfl (H.glob)
  case o7 => have e60 := H.iz hd 6 60 rfl rfl rfl (by kernel_rfl);have d : W.cell? ⟨sb,56,none⟩ = some (.int .i64 b5) := (by rw [H.glob];exact HC5.out.2);go_simp;exact hK _ _ (trivial) rfl (H.glob)
  case o8 => have e57 := H.iz hd 3 57 rfl rfl rfl (by kernel_rfl);go_simp;exact hK _ _ (trivial) rfl (H.glob)
  case o9 => have e61 := H.iz hd 7 61 rfl rfl rfl (by kernel_rfl);go_simp;exact hK _ _ (trivial) rfl (H.glob)
  case he =>
   intro vs W hlen hv
   match vs,hlen,hv with
   | [x0_,x1_,x2_,x3_,x4_,x5_,x6_,x7_,x8_,x9_],_,hv =>
   obtain rfl := isv hv 0 rfl rfl;obtain rfl := isv hv 1 rfl rfl;obtain rfl := isv hv 2 rfl rfl;obtain rfl := isv hv 3 rfl rfl;obtain rfl := isv hv 4 rfl rfl;obtain rfl := isv hv 5 rfl rfl;obtain rfl := isv hv 6 rfl rfl;obtain rfl := isv hv 7 rfl rfl;obtain rfl := isv hv 8 rfl rfl;obtain rfl := isv hv 9 rfl rfl
   intro L hall hG
   clear hv hlen
   have HW := hG
   clear hG hall
   subst HW
   simp only [fill,if_true]
   simp [Act.put]
   go_wp2_with (fail)
   go_ret2
   rw [Bool.true_or]
   refine ⟨by rw [HQ5.out];rfl,?_,HM5.out.below (Below.refl _ _).drew,HK5.out.drew⟩
   rw [<- HQ5.out]
   exact HB5.out.drew
 | false =>
  obtain ⟨d5,hd5⟩ : ∃ d5,d5 = en := ⟨_,rfl⟩
  have HD5 := Lib.hid hd5
  have hb5 := (hb1.set 55 (.bool d5)).set 56 (.int .i64 er)
  rw [sn_set55,sn_set56] at hb5
  have f5 : w1.frozen? ⟨sb,55,none⟩ = false := hb1.frozen 55
  have f6 : (w1.setCell ⟨sb,55,none⟩ (.bool d5)).frozen? ⟨sb,56,none⟩ = false := (hb1.set 55 _).frozen 56
  have g5 : w1.cell? ⟨sb,55,none⟩ = some (.bool s'.over) := (hb1.cell 55).trans (sn_55 s')
  have hb6 := hb1.set 55 (.bool d5)
  rw [sn_set55] at hb6
  have g6 : (w1.setCell ⟨sb,55,none⟩ (.bool d5)).cell? ⟨sb,56,none⟩ = some (.int .i64 s'.e) := (hb6.cell 56).trans (sn_56 _)
  have k5 : Keeps (fun k => k = sb) w1 ((w1.setCell ⟨sb,55,none⟩ (.bool d5)).setCell ⟨sb,56,none⟩ (.int .i64 er)) := ((Keeps.refl (fun k => k = sb) w1).setCell (p := ⟨sb,55,none⟩) (.inl rfl) _).setCell (p := ⟨sb,56,none⟩) (.inl rfl) _
  have HB5 := Lib.hid hb5
  have HM5 := Lib.hid (hm1.kept k5 (fun i hi e => HS.out (e ▸ hi)))
  have HK5 := Lib.hid (hk1.trans (k5.mono (fun _ _ h => .inl h)))
  clear hb5 hb6 k5 hb1 hm1 hk1
  rw [HD5.out] at f6 g6 HB5 HM5 HK5
  clear hd5 HD5
  go_wp2_with (fail)
  obtain ⟨d5,hd5⟩ : ∃ d5,d5 = en := ⟨_,rfl⟩
  obtain ⟨b5,hb5⟩ : ∃ b5,b5 = er := ⟨_,rfl⟩
  rw [<- hd5,<- hb5] at HB5 HM5 HK5 ⊢
  have HD5 := Lib.hid hd5
  have HQ5 := Lib.hid hb5
  obtain ⟨W5,hW5⟩ : ∃ W5,W5 = ((w1.setCell ⟨sb,55,none⟩ (.bool d5)).setCell ⟨sb,56,none⟩ (.int .i64 b5)) := ⟨_,rfl⟩
  rw [<- hW5] at HB5 HM5 HK5 ⊢
  have HC5 := Lib.hid (show W5.cell? ⟨sb,55,none⟩ = some (.bool d5) /\ W5.cell? ⟨sb,56,none⟩ = some (.int .i64 b5) from ⟨(HB5.out.cell 55).trans (sn_55 _),(HB5.out.cell 56).trans (sn_56 _)⟩)
  clear hW5 f5 f6 g5 g6
  clear hd5 hb5 hen
  refine wp_region_vals [Is (.pointer (some ⟨sb,0,none⟩)),Is (.pointer (some ⟨sb,0,none⟩)),Is (.pointer (some ⟨sb,55,none⟩)),Is (.bool d5),Is (.pointer (some ⟨sb,0,none⟩)),Is (.pointer (some ⟨sb,0,none⟩)),Is (.pointer (some ⟨sb,56,none⟩)),Is (.int .i64 b5),Is (.bool d5),Is (.int .i64 b5)]
   (fun _ _ _ => True) (fun _ W => W = W5.drew) (by kernel_rfl) (by kernel_rfl) (by kernel_rfl) ?hst ?h0 ⟨?o0,?o1,?o2,?o3,?o4,?o5,?o6,?o7,?o8,?o9,trivial⟩ ?he
  any_goals (intro L vs A W H hf hd K hK)
  case hst => repeat' (first | exact trivial | refine ⟨fun _ _ _ _ _ _ h _ => h,?_⟩)
  case h0 =>
   exact rfl
  case o0 => have e0 : A.tmps[0]?.getD undef = .pointer (some ⟨sb,0,none⟩) := H.old 0 (by kernel_rfl);go_simp;exact hK _ _ (trivial) rfl (H.glob)
  case o1 => have e54 := H.iz hd 0 54 rfl rfl rfl (by kernel_rfl);go_simp;exact hK _ _ (trivial) rfl (H.glob)
  case o2 => have e55 := H.iz hd 1 55 rfl rfl rfl (by kernel_rfl);go_simp;exact hK _ _ (trivial) rfl (H.glob)
  case o3 => have e56 := H.iz hd 2 56 rfl rfl rfl (by kernel_rfl);have d : W.cell? ⟨sb,55,none⟩ = some (.bool d5) := (by rw [H.glob];exact HC5.out.1);go_simp;exact hK _ _ (trivial) rfl (H.glob)
  case o4 => have e0 : A.tmps[0]?.getD undef = .pointer (some ⟨sb,0,none⟩) := H.old 0 (by kernel_rfl);go_simp;exact hK _ _ (trivial) rfl (H.glob)
  case o5 => have e58 := H.iz hd 4 58 rfl rfl rfl (by kernel_rfl);go_simp;exact hK _ _ (trivial) rfl (H.glob)
  case o6 => have e59 := H.iz hd 5 59 rfl rfl rfl (by kernel_rfl);go_simp;exact hK _ _ (trivial) rfl (H.glob)
  case o7 => have e60 := H.iz hd 6 60 rfl rfl rfl (by kernel_rfl);have d : W.cell? ⟨sb,56,none⟩ = some (.int .i64 b5) := (by rw [H.glob];exact HC5.out.2);go_simp;exact hK _ _ (trivial) rfl (H.glob)
  case o8 => have e57 := H.iz hd 3 57 rfl rfl rfl (by kernel_rfl);go_simp;exact hK _ _ (trivial) rfl (H.glob)
  case o9 => have e61 := H.iz hd 7 61 rfl rfl rfl (by kernel_rfl);go_simp;exact hK _ _ (trivial) rfl (H.glob)
  case he =>
   intro vs W hlen hv
   match vs,hlen,hv with
   | [x0_,x1_,x2_,x3_,x4_,x5_,x6_,x7_,x8_,x9_],_,hv =>
   obtain rfl := isv hv 0 rfl rfl;obtain rfl := isv hv 1 rfl rfl;obtain rfl := isv hv 2 rfl rfl;obtain rfl := isv hv 3 rfl rfl;obtain rfl := isv hv 4 rfl rfl;obtain rfl := isv hv 5 rfl rfl;obtain rfl := isv hv 6 rfl rfl;obtain rfl := isv hv 7 rfl rfl;obtain rfl := isv hv 8 rfl rfl;obtain rfl := isv hv 9 rfl rfl
   intro L hall hG
   clear hv hlen
   have HW := hG
   clear hG hall
   subst HW
   simp only [fill,if_true]
   simp [Act.put]
   go_wp2_with (fail)
   go_ret2
   rw [Bool.false_or]
   refine ⟨by rw [HD5.out,HQ5.out,HEN.out];rfl,?_,HM5.out.below (Below.refl _ _).drew,HK5.out.drew⟩
   rw [HEN.out,<- HD5.out,<- HQ5.out]
   exact HB5.out.drew
set_option maxRecDepth 100000 in
set_option maxHeartbeats 40000000 in
theorem step_again (w : World) (s : Sn) (sb mb : Nat) (S : Nat -> Prop) (vw is : List Int) (mk : Int -> Nat -> Int) (F : Int -> List (Int × Int)) (lo st fl fe : Int) (d : Bool) (er : Int) (s' : Sn) (lo' : Int)
  (hb : Blk w sb (snCells s) 164) (hm : MemP w mb S vw is mk F lo st fl fe) (hS : ¬ S sb) (hmv : s.mv = some ⟨mb,0,none⟩) (hst : s.step = phV sb 96) (hov : s.over = false)
  (hcall : Calls Tryz.prog 96 #[.pointer (some ⟨sb,0,none⟩)] w (SnP w sb mb S vw is mk F st fl fe d er s' lo')) :
  Calls Tryz.prog 124 #[.pointer (some ⟨sb,0,none⟩)] w (SnP w sb mb S vw is mk F st fl fe (d || er != 0) er (snOver s' d er) lo') := by
 have hq1 := nil_eq
 have hq2 := fn_eq 96
 have HSz := Lib.hid (size_m hm)
 have HLd := Lib.hid hcall
 have c0 : w.cell? ⟨sb,0,none⟩ = some (.pointer (some ⟨mb,0,none⟩)) := (hb.cell 0).trans ((sn_0 s).trans (by rw [hmv]))
 have c2 : w.cell? ⟨sb,54,none⟩ = some (.func (.func 96) #[.pointer (some ⟨sb,0,none⟩)] #[]) := (hb.cell 54).trans ((sn_54 s).trans (by rw [hst];rfl))
 have c5 : w.cell? ⟨sb,55,none⟩ = some (.bool false) := (hb.cell 55).trans ((sn_55 s).trans (by rw [hov]))
 have hz : ((8 * (vw.length : Int)) == 0) = false := beq_eq_false_iff_ne.2 (by have := hm.pos;omega)
 have HS := Lib.hid hS
 clear hb hm hmv hst hov hcall hS
 unfold snOver
 obtain ⟨en,hen⟩ : ∃ en,(er != 0) = en := ⟨_,rfl⟩
 go_enter Tryz.func124,Tryz.ntmps124
 go_wp2_with (go_at_call 48;refine HSz.out.mono ?_;rintro e w1 ⟨rfl,rfl⟩)
 refine HLd.out.mono ?_
 rintro e w1 ⟨rfl,hb1,hm1,hk1⟩
 have HEN := Lib.hid hen
 cases d with
 | true =>
  obtain ⟨d5,hd5⟩ : ∃ d5,d5 = true := ⟨_,rfl⟩
  have HD5 := Lib.hid hd5
  have hb5 := (hb1.set 55 (.bool d5)).set 56 (.int .i64 er)
  rw [sn_set55,sn_set56] at hb5
  have f5 : w1.frozen? ⟨sb,55,none⟩ = false := hb1.frozen 55
  have f6 : (w1.setCell ⟨sb,55,none⟩ (.bool d5)).frozen? ⟨sb,56,none⟩ = false := (hb1.set 55 _).frozen 56
  have g5 : w1.cell? ⟨sb,55,none⟩ = some (.bool s'.over) := (hb1.cell 55).trans (sn_55 s')
  have hb6 := hb1.set 55 (.bool d5)
  rw [sn_set55] at hb6
  have g6 : (w1.setCell ⟨sb,55,none⟩ (.bool d5)).cell? ⟨sb,56,none⟩ = some (.int .i64 s'.e) := (hb6.cell 56).trans (sn_56 _)
  have k5 : Keeps (fun k => k = sb) w1 ((w1.setCell ⟨sb,55,none⟩ (.bool d5)).setCell ⟨sb,56,none⟩ (.int .i64 er)) := ((Keeps.refl (fun k => k = sb) w1).setCell (p := ⟨sb,55,none⟩) (.inl rfl) _).setCell (p := ⟨sb,56,none⟩) (.inl rfl) _
  have HB5 := Lib.hid hb5
  have HM5 := Lib.hid (hm1.kept k5 (fun i hi e => HS.out (e ▸ hi)))
  have HK5 := Lib.hid (hk1.trans (k5.mono (fun _ _ h => .inl h)))
  clear hb5 hb6 k5 hb1 hm1 hk1
  rw [HD5.out] at f6 g6 HB5 HM5 HK5
  clear hd5 HD5
  go_wp2_with (fail)
  obtain ⟨b5,hb5⟩ : ∃ b5,b5 = er := ⟨_,rfl⟩
  rw [<- hb5] at HB5 HM5 HK5 ⊢
  have HQ5 := Lib.hid hb5
  obtain ⟨W5,hW5⟩ : ∃ W5,W5 = ((w1.setCell ⟨sb,55,none⟩ (.bool true)).setCell ⟨sb,56,none⟩ (.int .i64 b5)) := ⟨_,rfl⟩
  rw [<- hW5] at HB5 HM5 HK5 ⊢
  have HC5 := Lib.hid (show W5.cell? ⟨sb,55,none⟩ = some (.bool true) /\ W5.cell? ⟨sb,56,none⟩ = some (.int .i64 b5) from ⟨(HB5.out.cell 55).trans (sn_55 _),(HB5.out.cell 56).trans (sn_56 _)⟩)
  clear hW5 f5 f6 g5 g6
  clear hb5 hen
  refine wp_region_vals [Is (.pointer (some ⟨sb,0,none⟩)),Is (.pointer (some ⟨sb,0,none⟩)),Is (.pointer (some ⟨sb,55,none⟩)),Is (.bool true),Is (.pointer (some ⟨sb,0,none⟩)),Is (.pointer (some ⟨sb,0,none⟩)),Is (.pointer (some ⟨sb,56,none⟩)),Is (.int .i64 b5),Is (.bool true),Is (.int .i64 b5)]
   (fun _ _ _ => True) (fun _ W => W = W5.drew) (by kernel_rfl) (by kernel_rfl) (by kernel_rfl) ?hst ?h0 ⟨?o0,?o1,?o2,?o3,?o4,?o5,?o6,?o7,?o8,?o9,trivial⟩ ?he
  any_goals (intro L vs A W H hf hd K hK)
  case hst => repeat' (first | exact trivial | refine ⟨fun _ _ _ _ _ _ h _ => h,?_⟩)
  case h0 =>
   exact rfl
  case o0 => have e0 : A.tmps[0]?.getD undef = .pointer (some ⟨sb,0,none⟩) := H.old 0 (by kernel_rfl);go_simp;exact hK _ _ (trivial) rfl (H.glob)
  case o1 => have e54 := H.iz hd 0 54 rfl rfl rfl (by kernel_rfl);go_simp;exact hK _ _ (trivial) rfl (H.glob)
  case o2 => have e55 := H.iz hd 1 55 rfl rfl rfl (by kernel_rfl);go_simp;exact hK _ _ (trivial) rfl (H.glob)
  case o3 => have e56 := H.iz hd 2 56 rfl rfl rfl (by kernel_rfl);have d : W.cell? ⟨sb,55,none⟩ = some (.bool true) := (by rw [H.glob];exact HC5.out.1);go_simp;exact hK _ _ (trivial) rfl (H.glob)
  case o4 => have e0 : A.tmps[0]?.getD undef = .pointer (some ⟨sb,0,none⟩) := H.old 0 (by kernel_rfl);go_simp;exact hK _ _ (trivial) rfl (H.glob)
  case o5 => have e58 := H.iz hd 4 58 rfl rfl rfl (by kernel_rfl);go_simp;exact hK _ _ (trivial) rfl (H.glob)
  case o6 => have e59 := H.iz hd 5 59 rfl rfl rfl (by kernel_rfl);go_simp;exact hK _ _ (trivial) rfl (H.glob)
  case o7 => have e60 := H.iz hd 6 60 rfl rfl rfl (by kernel_rfl);have d : W.cell? ⟨sb,56,none⟩ = some (.int .i64 b5) := (by rw [H.glob];exact HC5.out.2);go_simp;exact hK _ _ (trivial) rfl (H.glob)
  case o8 => have e57 := H.iz hd 3 57 rfl rfl rfl (by kernel_rfl);go_simp;exact hK _ _ (trivial) rfl (H.glob)
  case o9 => have e61 := H.iz hd 7 61 rfl rfl rfl (by kernel_rfl);go_simp;exact hK _ _ (trivial) rfl (H.glob)
  case he =>
   intro vs W hlen hv
   match vs,hlen,hv with
   | [x0_,x1_,x2_,x3_,x4_,x5_,x6_,x7_,x8_,x9_],_,hv =>
   obtain rfl := isv hv 0 rfl rfl;obtain rfl := isv hv 1 rfl rfl;obtain rfl := isv hv 2 rfl rfl;obtain rfl := isv hv 3 rfl rfl;obtain rfl := isv hv 4 rfl rfl;obtain rfl := isv hv 5 rfl rfl;obtain rfl := isv hv 6 rfl rfl;obtain rfl := isv hv 7 rfl rfl;obtain rfl := isv hv 8 rfl rfl;obtain rfl := isv hv 9 rfl rfl
   intro L hall hG
   clear hv hlen
   have HW := hG
   clear hG hall
   subst HW
   simp only [fill,if_true]
   simp [Act.put]
   go_wp2_with (fail)
   go_ret2
   rw [Bool.true_or]
   refine ⟨by rw [HQ5.out];rfl,?_,HM5.out.below (Below.refl _ _).drew,HK5.out.drew⟩
   rw [<- HQ5.out]
   exact HB5.out.drew
 | false =>
  obtain ⟨d5,hd5⟩ : ∃ d5,d5 = en := ⟨_,rfl⟩
  have HD5 := Lib.hid hd5
  have hb5 := (hb1.set 55 (.bool d5)).set 56 (.int .i64 er)
  rw [sn_set55,sn_set56] at hb5
  have f5 : w1.frozen? ⟨sb,55,none⟩ = false := hb1.frozen 55
  have f6 : (w1.setCell ⟨sb,55,none⟩ (.bool d5)).frozen? ⟨sb,56,none⟩ = false := (hb1.set 55 _).frozen 56
  have g5 : w1.cell? ⟨sb,55,none⟩ = some (.bool s'.over) := (hb1.cell 55).trans (sn_55 s')
  have hb6 := hb1.set 55 (.bool d5)
  rw [sn_set55] at hb6
  have g6 : (w1.setCell ⟨sb,55,none⟩ (.bool d5)).cell? ⟨sb,56,none⟩ = some (.int .i64 s'.e) := (hb6.cell 56).trans (sn_56 _)
  have k5 : Keeps (fun k => k = sb) w1 ((w1.setCell ⟨sb,55,none⟩ (.bool d5)).setCell ⟨sb,56,none⟩ (.int .i64 er)) := ((Keeps.refl (fun k => k = sb) w1).setCell (p := ⟨sb,55,none⟩) (.inl rfl) _).setCell (p := ⟨sb,56,none⟩) (.inl rfl) _
  have HB5 := Lib.hid hb5
  have HM5 := Lib.hid (hm1.kept k5 (fun i hi e => HS.out (e ▸ hi)))
  have HK5 := Lib.hid (hk1.trans (k5.mono (fun _ _ h => .inl h)))
  clear hb5 hb6 k5 hb1 hm1 hk1
  rw [HD5.out] at f6 g6 HB5 HM5 HK5
  clear hd5 HD5
  go_wp2_with (fail)
  obtain ⟨d5,hd5⟩ : ∃ d5,d5 = en := ⟨_,rfl⟩
  obtain ⟨b5,hb5⟩ : ∃ b5,b5 = er := ⟨_,rfl⟩
  rw [<- hd5,<- hb5] at HB5 HM5 HK5 ⊢
  have HD5 := Lib.hid hd5
  have HQ5 := Lib.hid hb5
  obtain ⟨W5,hW5⟩ : ∃ W5,W5 = ((w1.setCell ⟨sb,55,none⟩ (.bool d5)).setCell ⟨sb,56,none⟩ (.int .i64 b5)) := ⟨_,rfl⟩
  rw [<- hW5] at HB5 HM5 HK5 ⊢
  have HC5 := Lib.hid (show W5.cell? ⟨sb,55,none⟩ = some (.bool d5) /\ W5.cell? ⟨sb,56,none⟩ = some (.int .i64 b5) from ⟨(HB5.out.cell 55).trans (sn_55 _),(HB5.out.cell 56).trans (sn_56 _)⟩)
  clear hW5 f5 f6 g5 g6
  clear hd5 hb5 hen
  refine wp_region_vals [Is (.pointer (some ⟨sb,0,none⟩)),Is (.pointer (some ⟨sb,0,none⟩)),Is (.pointer (some ⟨sb,55,none⟩)),Is (.bool d5),Is (.pointer (some ⟨sb,0,none⟩)),Is (.pointer (some ⟨sb,0,none⟩)),Is (.pointer (some ⟨sb,56,none⟩)),Is (.int .i64 b5),Is (.bool d5),Is (.int .i64 b5)]
   (fun _ _ _ => True) (fun _ W => W = W5.drew) (by kernel_rfl) (by kernel_rfl) (by kernel_rfl) ?hst ?h0 ⟨?o0,?o1,?o2,?o3,?o4,?o5,?o6,?o7,?o8,?o9,trivial⟩ ?he
  any_goals (intro L vs A W H hf hd K hK)
  case hst => repeat' (first | exact trivial | refine ⟨fun _ _ _ _ _ _ h _ => h,?_⟩)
  case h0 =>
   exact rfl
  case o0 => have e0 : A.tmps[0]?.getD undef = .pointer (some ⟨sb,0,none⟩) := H.old 0 (by kernel_rfl);go_simp;exact hK _ _ (trivial) rfl (H.glob)
  case o1 => have e54 := H.iz hd 0 54 rfl rfl rfl (by kernel_rfl);go_simp;exact hK _ _ (trivial) rfl (H.glob)
  case o2 => have e55 := H.iz hd 1 55 rfl rfl rfl (by kernel_rfl);go_simp;exact hK _ _ (trivial) rfl (H.glob)
  case o3 => have e56 := H.iz hd 2 56 rfl rfl rfl (by kernel_rfl);have d : W.cell? ⟨sb,55,none⟩ = some (.bool d5) := (by rw [H.glob];exact HC5.out.1);go_simp;exact hK _ _ (trivial) rfl (H.glob)
  case o4 => have e0 : A.tmps[0]?.getD undef = .pointer (some ⟨sb,0,none⟩) := H.old 0 (by kernel_rfl);go_simp;exact hK _ _ (trivial) rfl (H.glob)
  case o5 => have e58 := H.iz hd 4 58 rfl rfl rfl (by kernel_rfl);go_simp;exact hK _ _ (trivial) rfl (H.glob)
  case o6 => have e59 := H.iz hd 5 59 rfl rfl rfl (by kernel_rfl);go_simp;exact hK _ _ (trivial) rfl (H.glob)
  case o7 => have e60 := H.iz hd 6 60 rfl rfl rfl (by kernel_rfl);have d : W.cell? ⟨sb,56,none⟩ = some (.int .i64 b5) := (by rw [H.glob];exact HC5.out.2);go_simp;exact hK _ _ (trivial) rfl (H.glob)
  case o8 => have e57 := H.iz hd 3 57 rfl rfl rfl (by kernel_rfl);go_simp;exact hK _ _ (trivial) rfl (H.glob)
  case o9 => have e61 := H.iz hd 7 61 rfl rfl rfl (by kernel_rfl);go_simp;exact hK _ _ (trivial) rfl (H.glob)
  case he =>
   intro vs W hlen hv
   match vs,hlen,hv with
   | [x0_,x1_,x2_,x3_,x4_,x5_,x6_,x7_,x8_,x9_],_,hv =>
   obtain rfl := isv hv 0 rfl rfl;obtain rfl := isv hv 1 rfl rfl;obtain rfl := isv hv 2 rfl rfl;obtain rfl := isv hv 3 rfl rfl;obtain rfl := isv hv 4 rfl rfl;obtain rfl := isv hv 5 rfl rfl;obtain rfl := isv hv 6 rfl rfl;obtain rfl := isv hv 7 rfl rfl;obtain rfl := isv hv 8 rfl rfl;obtain rfl := isv hv 9 rfl rfl
   intro L hall hG
   clear hv hlen
   have HW := hG
   clear hG hall
   subst HW
   simp only [fill,if_true]
   simp [Act.put]
   go_wp2_with (fail)
   go_ret2
   rw [Bool.false_or]
   refine ⟨by rw [HD5.out,HQ5.out,HEN.out];rfl,?_,HM5.out.below (Below.refl _ _).drew,HK5.out.drew⟩
   rw [HEN.out,<- HD5.out,<- HQ5.out]
   exact HB5.out.drew
end Go.Proofs.YtodgfbjjjgohgaaGreat
