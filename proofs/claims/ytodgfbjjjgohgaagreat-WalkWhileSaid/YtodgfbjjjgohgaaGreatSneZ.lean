/-
 snap.Snap.bound,again: contracts.
-/
import Derived.Test.YtodgfbjjjgohgaaGreatSndZ
import Derived.ChangeKeysEq
namespace Go.Proofs.YtodgfbjjjgohgaaGreat
open Go.RowKit
attribute [local go_sem] Oper.semAt_some
set_option linter.unusedVariables false

def eqWd (f g : Nat -> Int) : Bool := (List.range 24).all (fun i => f i == g i)
theorem part_wd (f : Nat -> Int) (i : Nat) (hi : i < 24) (w : World) : (part 25 (wdCells f) (i * 1)).run Tryz.prog w = .ok (.int .u64 (f i)) w := by
 refine run_part_plain w (by kernel_rfl) ?_
 rw [Nat.mul_one,wdCells_get _ _ hi]
theorem eqItems_wd (f g : Nat -> Int) (d : Nat) (w : World) : ∀ is : List Nat,(∀ i ∈ is,i < 24) -> (Op.eqItems (d + 1) 25 1 (wdCells f) (wdCells g) is).run Tryz.prog w = .ok (is.all (fun i => f i == g i)) w
 | [],_ => by simp [Op.eqItems]
 | i :: is,h => by
  have hi := h i (List.mem_cons_self)
  simp only [Op.eqItems,Sem.run_bind,part_wd _ _ hi,Result.andThen_ok,run_equalIn_int w d 25 .u64 .u64 _ _ Tryz.underlying25]
  rw [List.all_cons]
  cases hq : (f i == g i)
  ·simp
  ·simpa using eqItems_wd f g d w is (fun j hj => h j (List.mem_cons_of_mem _ hj))
theorem eq_wd2 (f g : Nat -> Int) (w : World) : (Op.equalIn 10000 154 (.agg (wdCells f)) (.agg (wdCells g))).run Tryz.prog w = .ok (eqWd f g) w := by
 obtain ⟨i,hi⟩ := info_of_underlying (P := Tryz.prog) Tryz.underlying25
 rw [show (10000 : Nat) = 9998 + 1 + 1 from rfl,run_equalIn_array w (9998 + 1) (wdCells f) (wdCells g) Tryz.underlying154 hi,show Tryz.prog.cellsOf 25 = 1 by kernel_rfl,
  eqItems_wd f g 9998 w (List.range 24) (fun i hi => List.mem_range.1 hi)]
 rfl
theorem sn_rowA {w : World} {sb : Nat} {s : Sn} {t : TypeId} (h : Blk w sb (snCells s) t) : ∀ j v,(wdCells s.a)[j]? = some v -> w.cell? ⟨sb,4 + j,none⟩ = some v := fun j v hv => by
 have hj : j < 24 := by have := (Array.getElem?_eq_some_iff.1 hv).1;rwa [wdCells_size] at this
 rw [wdCells_get _ _ hj] at hv
 rw [h.cell,sn_a s j hj,hv]
theorem sn_rowB {w : World} {sb : Nat} {s : Sn} {t : TypeId} (h : Blk w sb (snCells s) t) : ∀ j v,(wdCells s.b)[j]? = some v -> w.cell? ⟨sb,28 + j,none⟩ = some v := fun j v hv => by
 have hj : j < 24 := by have := (Array.getElem?_eq_some_iff.1 hv).1;rwa [wdCells_size] at this
 rw [wdCells_get _ _ hj] at hv
 rw [h.cell,sn_b s j hj,hv]

def snBound (sb : Nat) (vw : List Int) (s : Sn) : Sn := { s with high := ldW vw (wrdA (s.a 2) 1),has := true,step := phV sb 96 }
set_option maxRecDepth 100000 in
set_option maxHeartbeats 4000000 in
theorem bound_v (w : World) (s : Sn) (sb mb : Nat) (S : Nat -> Prop) (vw is : List Int) (mk : Int -> Nat -> Int) (F : Int -> List (Int × Int)) (lo st fl fe : Int)
  (hb : Blk w sb (snCells s) 164) (hm : MemP w mb S vw is mk F lo st fl fe) (hS : ¬ S sb) (hmv : s.mv = some ⟨mb,0,none⟩) :
  Calls Tryz.prog 95 #[.pointer (some ⟨sb,0,none⟩)] w (SnP w sb mb S vw is mk F st fl fe false (atE vw.length (wrdA (s.a 2) 1)) (snBound sb vw s) (ldN vw.length (wrdA (s.a 2) 1) lo)) := by
 obtain ⟨W0,rfl⟩ : ∃ y,y = w := ⟨_,rfl⟩
 have HWd := Lib.hid (show ∀ W,Calls Tryz.prog 91 #[.int .u64 (s.a 2),.int .i64 1] W fun e w' => e = .returned (.int .u64 (wrdA (s.a 2) 1)) /\ W = w' from fun W => word_v (s.a 2) 1 (by decide) W)
 obtain ⟨ad,had⟩ : ∃ ad,wrdA (s.a 2) 1 = ad := ⟨_,rfl⟩
 have Had := Lib.hid had
 have Had2 := Lib.hid (show 0 <= ad /\ ad <= 18446744073709551615 by rw [<- had];exact u64_rng _)
 rw [had] at HWd ⊢
 have Hc := Lib.hid (show ∀ W,Keeps S W0 W -> ∀ j,W.cell? ⟨sb,j,none⟩ = (snCells s)[j]? from fun W hk j => by rw [hk.cell (p := ⟨sb,j,none⟩) hb.lt hS];exact hb.cell j)
 have HM := Lib.hid hm
 have HB := Lib.hid hb
 have Hmv := Lib.hid hmv
 have HS := Lib.hid hS
 clear had hm hb hmv hS
 go_enter Tryz.func95,Tryz.ntmps95
 go_wp2_with (fail)
 refine wp_region_vals [Is (.pointer (some ⟨sb,0,none⟩)),Is (.pointer (some ⟨sb,0,none⟩)),Is (.pointer (some ⟨sb,0,none⟩)),Is (.pointer (some ⟨mb,0,none⟩)),Is (.pointer (some ⟨sb,0,none⟩)),Is (.pointer (some ⟨sb,0,none⟩)),Is (.pointer (some ⟨sb,4,none⟩)),Is (.pointer (some ⟨sb,6,none⟩)),Is (.int .u64 (s.a 2)),Is (.int .u64 ad),Is (.tuple #[.int .u64 (ldW vw ad),.int .i64 (atE vw.length ad)]),Is (.tuple #[.int .u64 (ldW vw ad),.int .i64 (atE vw.length ad)]),Is (.int .u64 (ldW vw ad)),Is (.int .i64 (atE vw.length ad)),Is (.int .u64 (ldW vw ad)),Is (.int .i64 (atE vw.length ad))]
  (fun _ _ _ => True) (fun L W => LGp W0 mb S vw is mk F lo st fl fe ad 10 L W) (by kernel_rfl) (by kernel_rfl) (by kernel_rfl) ?hst ?h0 ⟨?o0,?o1,?o2,?o3,?o4,?o5,?o6,?o7,?o8,?o9,?o10,?o11,?o12,?o13,?o14,?o15,trivial⟩ ?he
 any_goals (intro L vs A W H hf hd K hK)
 case hst => repeat' (first | exact trivial | refine ⟨fun _ _ _ _ _ _ h _ => h,?_⟩)
 case h0 =>
  exact LGp.start HM.out
 case o0 => have e0 : A.tmps[0]?.getD undef = .pointer (some ⟨sb,0,none⟩) := H.old 0 (by kernel_rfl);go_simp;exact hK _ _ (trivial) rfl (H.glob.keep rfl)
 case o1 => have e7 := H.iz hd 0 7 rfl rfl rfl (by kernel_rfl);go_simp;exact hK _ _ (trivial) rfl (H.glob.keep rfl)
 case o2 => have e8 := H.iz hd 1 8 rfl rfl rfl (by kernel_rfl);go_simp;exact hK _ _ (trivial) rfl (H.glob.keep rfl)
 case o3 => have e9 := H.iz hd 2 9 rfl rfl rfl (by kernel_rfl);have d : W.cell? ⟨sb,0,none⟩ = some (.pointer (some ⟨mb,0,none⟩)) := (Hc.out W H.glob.kp _).trans ((sn_0 s).trans (by rw [Hmv.out]));go_simp;exact hK _ _ (trivial) rfl (H.glob.keep rfl)
 case o4 => have e0 : A.tmps[0]?.getD undef = .pointer (some ⟨sb,0,none⟩) := H.old 0 (by kernel_rfl);go_simp;exact hK _ _ (trivial) rfl (H.glob.keep rfl)
 case o5 => have e11 := H.iz hd 4 11 rfl rfl rfl (by kernel_rfl);go_simp;exact hK _ _ (trivial) rfl (H.glob.keep rfl)
 case o6 => have e12 := H.iz hd 5 12 rfl rfl rfl (by kernel_rfl);go_simp;exact hK _ _ (trivial) rfl (H.glob.keep rfl)
 case o7 => have e13 := H.iz hd 6 13 rfl rfl rfl (by kernel_rfl);go_simp;exact hK _ _ (trivial) rfl (H.glob.keep rfl)
 case o8 => have e14 := H.iz hd 7 14 rfl rfl rfl (by kernel_rfl);have d : W.cell? ⟨sb,6,none⟩ = some (.int .u64 (s.a 2)) := (Hc.out W H.glob.kp _).trans (sn_a s 2 (by decide));go_simp;exact hK _ _ (trivial) rfl (H.glob.keep rfl)
 case o9 => have e15 := H.iz hd 8 15 rfl rfl rfl (by kernel_rfl);have HL := Lib.hid (HWd.out W);go_simp;refine HL.out.mono ?_;rintro e w' ⟨rfl,rfl⟩;go_simp;exact hK _ _ trivial rfl (H.glob.keep rfl)
 case o10 => have e10 := H.iz hd 3 10 rfl rfl rfl (by kernel_rfl);have e16 := H.iz hd 9 16 rfl rfl rfl (by kernel_rfl);have HL := Lib.hid (load_w (H.glob.n hf) ad Had2.out.1 Had2.out.2);go_simp;refine HL.out.mono ?_;rintro e w' ⟨rfl,hm,hk⟩;go_simp;exact hK _ _ trivial rfl (H.glob.load hm hk)
 case o11 => have e17 := H.iz hd 10 17 rfl rfl rfl (by kernel_rfl);go_simp;exact hK _ _ (trivial) rfl (H.glob.keep rfl)
 case o12 => have e6 := H.iz hd 11 6 rfl rfl rfl (by kernel_rfl);go_simp;exact hK _ _ (trivial) rfl (H.glob.keep rfl)
 case o13 => have e6 := H.iz hd 11 6 rfl rfl rfl (by kernel_rfl);go_simp;exact hK _ _ (trivial) rfl (H.glob.keep rfl)
 case o14 => have e18 := H.iz hd 12 18 rfl rfl rfl (by kernel_rfl);go_simp;exact hK _ _ (trivial) rfl (H.glob.keep rfl)
 case o15 => have e19 := H.iz hd 13 19 rfl rfl rfl (by kernel_rfl);go_simp;exact hK _ _ (trivial) rfl (H.glob.keep rfl)
 case he =>
  intro vs W hlen hv
  match vs,hlen,hv with
  | [x0_,x1_,x2_,x3_,x4_,x5_,x6_,x7_,x8_,x9_,x10_,x11_,x12_,x13_,x14_,x15_],_,hv =>
  obtain rfl := isv hv 0 rfl rfl;obtain rfl := isv hv 1 rfl rfl;obtain rfl := isv hv 2 rfl rfl;obtain rfl := isv hv 3 rfl rfl;obtain rfl := isv hv 4 rfl rfl;obtain rfl := isv hv 5 rfl rfl;obtain rfl := isv hv 6 rfl rfl;obtain rfl := isv hv 7 rfl rfl;obtain rfl := isv hv 8 rfl rfl;obtain rfl := isv hv 9 rfl rfl;obtain rfl := isv hv 10 rfl rfl;obtain rfl := isv hv 11 rfl rfl;obtain rfl := isv hv 12 rfl rfl;obtain rfl := isv hv 13 rfl rfl;obtain rfl := isv hv 14 rfl rfl;obtain rfl := isv hv 15 rfl rfl
  intro L hall hG
  clear hv hlen
  have HM1 := Lib.hid (hG.y (hall 10 (by decide)))
  have HKp := Lib.hid hG.kp
  clear hG hall
  simp only [fill,if_true]
  simp [Act.put]
  have HB2 := Lib.hid (HB.out.kept HKp.out HS.out)
  have HK2 := Lib.hid (HKp.out.mono (S' := fun i => i = sb ∨ S i) (fun _ _ h => .inr h))
  obtain ⟨x,hx⟩ : ∃ x,ldW vw ad = x := ⟨_,rfl⟩
  have HX := Lib.hid hx
  have HM2 := Lib.hid HM1.out
  clear HM1 HKp Hc HM HB
  rw [hx]
  clear hx
  have d52 := (HB2.out.cell 52).trans (sn_52 s)
  have d53 := (HB2.out.cell 53).trans (sn_53 s)
  have f52 := HB2.out.frozen 52
  have f53 := HB2.out.frozen 53
  go_upto_region 3 with (fail)
  have hb3 := (HB2.out.set 52 (.int .u64 x)).set 53 (.bool true)
  rw [sn_set52,sn_set53] at hb3
  have hk3 : Keeps (fun i => i = sb) W ((W.setCell ⟨sb,52,none⟩ (.int .u64 x)).setCell ⟨sb,53,none⟩ (.bool true)) := ((Keeps.refl (fun i => i = sb) W).setCell (p := ⟨sb,52,none⟩) (.inl rfl) _).setCell (p := ⟨sb,53,none⟩) (.inl rfl) _
  have HB3 := Lib.hid hb3
  have HK3 := Lib.hid hk3
  generalize (W.setCell ⟨sb,52,none⟩ (.int .u64 x)).setCell ⟨sb,53,none⟩ (.bool true) = W3 at *
  clear hb3 hk3 d52 d53 f52 f53
  go_wp2_with ((with_reducible refine wpList_store_cellB (o := ⟨none,.store 61 (.tmp 31) (.tmp 29),_,_,_,_⟩) ?hg 61 (.tmp 31) (.tmp 29) ?ho sb 54 (phV sb 96) ?CC 164 ?hx ?hy ?h1 ?hb ?hs ?hi ?_);(case hg => rfl);(case ho => rfl);(case hx => rfl);(case hy => rfl);(case h1 => rfl);(case hb => exact HB3.out);(case hs => rw [snCells_size];decide);(case hi => exact infoFn))
  go_ret2
  have hb4 := HB3.out.set 54 (phV sb 96)
  have hk4 := HK3.out.setCell (p := ⟨sb,54,none⟩) (.inl rfl) (phV sb 96)
  rw [sn_set54] at hb4
  refine ⟨rfl,?_,HM2.out.kept hk4 (fun i hi e => HS.out (e ▸ hi)),HK2.out.trans (hk4.mono (fun _ _ h => .inl h))⟩
  unfold snBound
  rw [Had.out,HX.out]
  exact hb4

def agBad (vw : List Int) (s : Sn) : Bool := ldW vw (wrdA s.at_ 3) != s.a 3 || !(eqWd s.a s.b)
def snAgain (sb : Nat) (vw : List Int) (s : Sn) : Bool × Int × Sn :=
 if atE vw.length (wrdA s.at_ 3) = 0 then (if agBad vw s = true then (false,0,snAnew sb s) else (true,(ofV s.a).2,{ s with found := (ofV s.a).1 })) else (false,3,s)
set_option maxRecDepth 100000 in
set_option maxHeartbeats 8000000 in
theorem again_v (w : World) (s : Sn) (sb mb : Nat) (S : Nat -> Prop) (vw is : List Int) (mk : Int -> Nat -> Int) (F : Int -> List (Int × Int)) (lo st fl fe : Int)
  (hb : Blk w sb (snCells s) 164) (hm : MemP w mb S vw is mk F lo st fl fe) (hS : ¬ S sb) (hmv : s.mv = some ⟨mb,0,none⟩) (ha : 0 <= s.a 0 /\ s.a 0 <= 18446744073709551615) :
  Calls Tryz.prog 96 #[.pointer (some ⟨sb,0,none⟩)] w (SnP w sb mb S vw is mk F st fl fe (snAgain sb vw s).1 (snAgain sb vw s).2.1 (snAgain sb vw s).2.2 (ldN vw.length (wrdA s.at_ 3) lo)) := by
 obtain ⟨W0,rfl⟩ : ∃ y,y = w := ⟨_,rfl⟩
 have HWd := Lib.hid (show ∀ W,Calls Tryz.prog 91 #[.int .u64 s.at_,.int .i64 3] W fun e w' => e = .returned (.int .u64 (wrdA s.at_ 3)) /\ W = w' from fun W => word_v s.at_ 3 (by decide) W)
 unfold snAgain agBad
 obtain ⟨ad,had⟩ : ∃ ad,wrdA s.at_ 3 = ad := ⟨_,rfl⟩
 have Had2 := Lib.hid (show 0 <= ad /\ ad <= 18446744073709551615 by rw [<- had];exact u64_rng _)
 rw [had] at HWd ⊢
 have Hc := Lib.hid (show ∀ W,Keeps S W0 W -> ∀ j,W.cell? ⟨sb,j,none⟩ = (snCells s)[j]? from fun W hk j => by rw [hk.cell (p := ⟨sb,j,none⟩) hb.lt hS];exact hb.cell j)
 have HM := Lib.hid hm
 have HB := Lib.hid hb
 have Hmv := Lib.hid hmv
 have HS := Lib.hid hS
 have HOf := Lib.hid (fun W => of_v s.a ha W)
 clear had hm hb hmv hS ha
 obtain ⟨x,hx⟩ : ∃ x,ldW vw ad = x := ⟨_,rfl⟩
 have HX := Lib.hid hx
 rw [hx]
 obtain ⟨r,hr⟩ : ∃ r : Bool × Int × Sn,(if atE vw.length ad = 0 then (if (x != s.a 3 || !(eqWd s.a s.b)) = true then (false,0,snAnew sb s) else (true,(ofV s.a).2,{ s with found := (ofV s.a).1 })) else (false,3,s)) = r := ⟨_,rfl⟩
 rw [hr]
 have HR := Lib.hid hr
 clear hr hx
 go_enter Tryz.func96,Tryz.ntmps96
 go_wp2_with (fail)
 refine wp_region_vals [Is (.pointer (some ⟨sb,0,none⟩)),Is (.pointer (some ⟨sb,0,none⟩)),Is (.pointer (some ⟨sb,0,none⟩)),Is (.pointer (some ⟨mb,0,none⟩)),Is (.pointer (some ⟨sb,0,none⟩)),Is (.pointer (some ⟨sb,0,none⟩)),Is (.pointer (some ⟨sb,1,none⟩)),Is (.int .u64 s.at_),Is (.int .u64 ad),Is (.tuple #[.int .u64 (ldW vw ad),.int .i64 (atE vw.length ad)]),Is (.tuple #[.int .u64 (ldW vw ad),.int .i64 (atE vw.length ad)]),Is (.int .u64 (ldW vw ad)),Is (.int .i64 (atE vw.length ad)),Is (.int .u64 (ldW vw ad)),Is (.int .i64 (atE vw.length ad))]
  (fun _ _ _ => True) (fun L W => LGp W0 mb S vw is mk F lo st fl fe ad 9 L W) (by kernel_rfl) (by kernel_rfl) (by kernel_rfl) ?hst ?h0 ⟨?o0,?o1,?o2,?o3,?o4,?o5,?o6,?o7,?o8,?o9,?o10,?o11,?o12,?o13,?o14,trivial⟩ ?he
 any_goals (intro L vs A W H hf hd K hK)
 case hst => repeat' (first | exact trivial | refine ⟨fun _ _ _ _ _ _ h _ => h,?_⟩)
 case h0 =>
  exact LGp.start HM.out
 case o0 => have e0 : A.tmps[0]?.getD undef = .pointer (some ⟨sb,0,none⟩) := H.old 0 (by kernel_rfl);go_simp;exact hK _ _ (trivial) rfl (H.glob.keep rfl)
 case o1 => have e7 := H.iz hd 0 7 rfl rfl rfl (by kernel_rfl);go_simp;exact hK _ _ (trivial) rfl (H.glob.keep rfl)
 case o2 => have e8 := H.iz hd 1 8 rfl rfl rfl (by kernel_rfl);go_simp;exact hK _ _ (trivial) rfl (H.glob.keep rfl)
 case o3 => have e9 := H.iz hd 2 9 rfl rfl rfl (by kernel_rfl);have d : W.cell? ⟨sb,0,none⟩ = some (.pointer (some ⟨mb,0,none⟩)) := (Hc.out W H.glob.kp _).trans ((sn_0 s).trans (by rw [Hmv.out]));go_simp;exact hK _ _ (trivial) rfl (H.glob.keep rfl)
 case o4 => have e0 : A.tmps[0]?.getD undef = .pointer (some ⟨sb,0,none⟩) := H.old 0 (by kernel_rfl);go_simp;exact hK _ _ (trivial) rfl (H.glob.keep rfl)
 case o5 => have e11 := H.iz hd 4 11 rfl rfl rfl (by kernel_rfl);go_simp;exact hK _ _ (trivial) rfl (H.glob.keep rfl)
 case o6 => have e12 := H.iz hd 5 12 rfl rfl rfl (by kernel_rfl);go_simp;exact hK _ _ (trivial) rfl (H.glob.keep rfl)
 case o7 => have e13 := H.iz hd 6 13 rfl rfl rfl (by kernel_rfl);have d : W.cell? ⟨sb,1,none⟩ = some (.int .u64 s.at_) := (Hc.out W H.glob.kp _).trans (sn_1 s);go_simp;exact hK _ _ (trivial) rfl (H.glob.keep rfl)
 case o8 => have e14 := H.iz hd 7 14 rfl rfl rfl (by kernel_rfl);have HL := Lib.hid (HWd.out W);go_simp;refine HL.out.mono ?_;rintro e w' ⟨rfl,rfl⟩;go_simp;exact hK _ _ trivial rfl (H.glob.keep rfl)
 case o9 => have e10 := H.iz hd 3 10 rfl rfl rfl (by kernel_rfl);have e15 := H.iz hd 8 15 rfl rfl rfl (by kernel_rfl);have HL := Lib.hid (load_w (H.glob.n hf) ad Had2.out.1 Had2.out.2);go_simp;refine HL.out.mono ?_;rintro e w' ⟨rfl,hm,hk⟩;go_simp;exact hK _ _ trivial rfl (H.glob.load hm hk)
 case o10 => have e16 := H.iz hd 9 16 rfl rfl rfl (by kernel_rfl);go_simp;exact hK _ _ (trivial) rfl (H.glob.keep rfl)
 case o11 => have e6 := H.iz hd 10 6 rfl rfl rfl (by kernel_rfl);go_simp;exact hK _ _ (trivial) rfl (H.glob.keep rfl)
 case o12 => have e6 := H.iz hd 10 6 rfl rfl rfl (by kernel_rfl);go_simp;exact hK _ _ (trivial) rfl (H.glob.keep rfl)
 case o13 => have e17 := H.iz hd 11 17 rfl rfl rfl (by kernel_rfl);go_simp;exact hK _ _ (trivial) rfl (H.glob.keep rfl)
 case o14 => have e18 := H.iz hd 12 18 rfl rfl rfl (by kernel_rfl);go_simp;exact hK _ _ (trivial) rfl (H.glob.keep rfl)
 case he =>
  intro vs W hlen hv
  match vs,hlen,hv with
  | [x0_,x1_,x2_,x3_,x4_,x5_,x6_,x7_,x8_,x9_,x10_,x11_,x12_,x13_,x14_],_,hv =>
  obtain rfl := isv hv 0 rfl rfl;obtain rfl := isv hv 1 rfl rfl;obtain rfl := isv hv 2 rfl rfl;obtain rfl := isv hv 3 rfl rfl;obtain rfl := isv hv 4 rfl rfl;obtain rfl := isv hv 5 rfl rfl;obtain rfl := isv hv 6 rfl rfl;obtain rfl := isv hv 7 rfl rfl;obtain rfl := isv hv 8 rfl rfl;obtain rfl := isv hv 9 rfl rfl;obtain rfl := isv hv 10 rfl rfl;obtain rfl := isv hv 11 rfl rfl;obtain rfl := isv hv 12 rfl rfl;obtain rfl := isv hv 13 rfl rfl;obtain rfl := isv hv 14 rfl rfl
  intro L hall hG
  clear hv hlen
  have HM1 := Lib.hid (hG.y (hall 9 (by decide)))
  have HKp := Lib.hid hG.kp
  clear hG hall
  simp only [fill,if_true]
  simp [Act.put]
  have HB2 := Lib.hid (HB.out.kept HKp.out HS.out)
  have HK2 := Lib.hid (HKp.out.mono (S' := fun i => i = sb ∨ S i) (fun _ _ h => .inr h))
  have HM2 := Lib.hid HM1.out
  clear HM1 HKp Hc HM HB
  rw [HX.out]
  rcases atE_or vw.length ad with e0 | e0
  case inr =>
   rw [e0] at HR ⊢
   rw [if_neg (by decide)] at HR
   obtain rfl := HR.out
   go_wp2_with (fail)
   go_ret2
   exact ⟨rfl,HB2.out,HM2.out,HK2.out⟩
  rw [e0] at HR ⊢
  rw [if_pos rfl] at HR
  clear e0
  obtain ⟨W2,hW2⟩ : ∃ W2,W = W2 := ⟨_,rfl⟩
  rw [hW2] at HB2 HK2 HM2 ⊢
  clear hW2
  go_wp2_with (fail)
  have HG0 := Lib.hid (show StG W2 sb s (fun _ => s) (fun _ => false) W2.drew from StG.start HB2.out rfl)
  cases hne : (x != s.a 3) with
  | true =>
   rw [hne,Bool.true_or,if_pos rfl] at HR
   obtain rfl := HR.out
   have Hne := Lib.hid hne
   clear hne
   refine wp_region_vals [Is (.int .u64 x),Is (.pointer (some ⟨sb,0,none⟩)),Is (.pointer (some ⟨sb,0,none⟩)),Is (.pointer (some ⟨sb,4,none⟩)),Is (.pointer (some ⟨sb,7,none⟩)),Is (.int .u64 (s.a 3)),Is (.bool true),Is (.bool true),Any,Any,Any,Any,Any,Any,Any,Any,Any,Is (.bool true)]
    (fun _ _ _ => True) (fun L W => StG W2 sb s (fun _ => s) L W) (by kernel_rfl) (by kernel_rfl) (by kernel_rfl) ?hst ?h0 ⟨?o0,?o1,?o2,?o3,?o4,?o5,?o6,?o7,?o8,?o9,?o10,?o11,?o12,?o13,?o14,?o15,?o16,?o17,trivial⟩ ?he
   any_goals (intro L vs A W H hf hd K hK)
   case hst => repeat' (first | exact trivial | refine ⟨fun _ _ _ _ _ _ h _ => h,?_⟩)
   case h0 =>
    exact HG0.out
   case o0 => have e4 : A.tmps[4]?.getD undef = .int .u64 x := H.old 4 (by kernel_rfl);go_simp;exact hK _ _ (trivial) rfl (H.glob.keep rfl)
   case o1 => have e0 : A.tmps[0]?.getD undef = .pointer (some ⟨sb,0,none⟩) := H.old 0 (by kernel_rfl);go_simp;exact hK _ _ (trivial) rfl (H.glob.keep rfl)
   case o2 => have e23 := H.iz hd 1 23 rfl rfl rfl (by kernel_rfl);go_simp;exact hK _ _ (trivial) rfl (H.glob.keep rfl)
   case o3 => have e24 := H.iz hd 2 24 rfl rfl rfl (by kernel_rfl);go_simp;exact hK _ _ (trivial) rfl (H.glob.keep rfl)
   case o4 => have e25 := H.iz hd 3 25 rfl rfl rfl (by kernel_rfl);go_simp;exact hK _ _ (trivial) rfl (H.glob.keep rfl)
   case o5 => have e26 := H.iz hd 4 26 rfl rfl rfl (by kernel_rfl);have d : W.cell? ⟨sb,7,none⟩ = some (.int .u64 (s.a 3)) := (H.glob.b.cell _).trans (sn_a s 3 (by decide));go_simp;exact hK _ _ (trivial) rfl (H.glob.keep rfl)
   case o6 => have e22 := H.iz hd 0 22 rfl rfl rfl (by kernel_rfl);have e27 := H.iz hd 5 27 rfl rfl rfl (by kernel_rfl);have hn : (x != s.a 3) = true := Hne.out;go_simp;exact hK _ _ (trivial) rfl (H.glob.keep rfl)
   case o7 => have e28 := H.iz hd 6 28 rfl rfl rfl (by kernel_rfl);go_simp;exact hK _ _ (trivial) rfl (H.glob.keep rfl)
   case o8 => have e29 := H.iz hd 7 29 rfl rfl rfl (by kernel_rfl);refine if_unwanted (j := 7) (s := 29) rfl rfl rfl e29 rfl ?_;exact hK _ _ (trivial) trivial (H.glob.keep rfl)
   case o9 => have e29 := H.iz hd 7 29 rfl rfl rfl (by kernel_rfl);refine if_unwanted (j := 7) (s := 29) rfl rfl rfl e29 rfl ?_;exact hK _ _ (trivial) trivial (H.glob.keep rfl)
   case o10 => have e29 := H.iz hd 7 29 rfl rfl rfl (by kernel_rfl);refine if_unwanted (j := 7) (s := 29) rfl rfl rfl e29 rfl ?_;exact hK _ _ (trivial) trivial (H.glob.keep rfl)
   case o11 => have e29 := H.iz hd 7 29 rfl rfl rfl (by kernel_rfl);refine if_unwanted (j := 7) (s := 29) rfl rfl rfl e29 rfl ?_;exact hK _ _ (trivial) trivial (H.glob.keep rfl)
   case o12 => have e29 := H.iz hd 7 29 rfl rfl rfl (by kernel_rfl);refine if_unwanted (j := 7) (s := 29) rfl rfl rfl e29 rfl ?_;exact hK _ _ (trivial) trivial (H.glob.keep rfl)
   case o13 => have e29 := H.iz hd 7 29 rfl rfl rfl (by kernel_rfl);refine if_unwanted (j := 7) (s := 29) rfl rfl rfl e29 rfl ?_;exact hK _ _ (trivial) trivial (H.glob.keep rfl)
   case o14 => have e29 := H.iz hd 7 29 rfl rfl rfl (by kernel_rfl);refine if_unwanted (j := 7) (s := 29) rfl rfl rfl e29 rfl ?_;exact hK _ _ (trivial) trivial (H.glob.keep rfl)
   case o15 => have e29 := H.iz hd 7 29 rfl rfl rfl (by kernel_rfl);refine if_unwanted (j := 7) (s := 29) rfl rfl rfl e29 rfl ?_;exact hK _ _ (trivial) trivial (H.glob.keep rfl)
   case o16 => have e29 := H.iz hd 7 29 rfl rfl rfl (by kernel_rfl);refine if_unwanted (j := 7) (s := 29) rfl rfl rfl e29 rfl ?_;exact hK _ _ (trivial) trivial (H.glob.keep rfl)
   case o17 => have e29 := H.iz hd 7 29 rfl rfl rfl (by kernel_rfl);obtain ⟨v38,e38,q38⟩ := H.val 16 38 rfl rfl rfl (deps_of' hd 16 (by kernel_rfl)) (by kernel_rfl);go_simp;exact hK _ _ (trivial) rfl (H.glob.keep rfl)
   case he =>
    intro vs W hlen hv
    match vs,hlen,hv with
    | [x0_,x1_,x2_,x3_,x4_,x5_,x6_,x7_,x8_,x9_,x10_,x11_,x12_,x13_,x14_,x15_,x16_,x17_],_,hv =>
    obtain rfl := isv hv 0 rfl rfl;obtain rfl := isv hv 1 rfl rfl;obtain rfl := isv hv 2 rfl rfl;obtain rfl := isv hv 3 rfl rfl;obtain rfl := isv hv 4 rfl rfl;obtain rfl := isv hv 5 rfl rfl;obtain rfl := isv hv 6 rfl rfl;obtain rfl := isv hv 7 rfl rfl;obtain rfl := isv hv 17 rfl rfl
    intro L hall hG
    clear hv hlen
    have HG := Lib.hid hG
    clear hG hall
    simp only [fill,if_true]
    simp [Act.put]
    have HB3 := Lib.hid HG.out.b
    have HM3 := Lib.hid (HM2.out.kept HG.out.kp (fun i hi e => HS.out (e ▸ hi)))
    have HK3 := Lib.hid (HK2.out.trans (HG.out.kp.mono (S' := fun i => i = sb ∨ S i) (fun _ _ h => .inl h)))
    clear HG HG0 HB2 HM2 HK2
    have HAn := Lib.hid (anew_v s sb W HB3.out)
    go_wp2_with (fail)
    refine HAn.out.mono ?_
    rintro e w' ⟨rfl,hb4,hk4⟩
    have HB4 := Lib.hid hb4
    have HK4 := Lib.hid hk4
    clear hb4 hk4
    go_wp2_with (fail)
    go_ret2
    refine ⟨rfl,HB4.out,HM3.out.kept HK4.out (fun i hi e => HS.out (e ▸ hi)),HK3.out.trans (HK4.out.mono (fun _ _ h => .inl h))⟩
  | false =>
   rw [hne,Bool.false_or] at HR
   have Hne := Lib.hid hne
   clear hne
   refine wp_region_vals [Is (.int .u64 x),Is (.pointer (some ⟨sb,0,none⟩)),Is (.pointer (some ⟨sb,0,none⟩)),Is (.pointer (some ⟨sb,4,none⟩)),Is (.pointer (some ⟨sb,7,none⟩)),Is (.int .u64 (s.a 3)),Is (.bool false),Is (.bool false),Is (.pointer (some ⟨sb,0,none⟩)),Is (.pointer (some ⟨sb,0,none⟩)),Is (.pointer (some ⟨sb,4,none⟩)),Is (.agg (wdCells s.a)),Is (.pointer (some ⟨sb,0,none⟩)),Is (.pointer (some ⟨sb,0,none⟩)),Is (.pointer (some ⟨sb,28,none⟩)),Is (.agg (wdCells s.b)),Is (.bool (!(eqWd s.a s.b))),Is (.bool (!(eqWd s.a s.b)))]
    (fun _ _ _ => True) (fun L W => StG W2 sb s (fun _ => s) L W) (by kernel_rfl) (by kernel_rfl) (by kernel_rfl) ?hst ?h0 ⟨?o0,?o1,?o2,?o3,?o4,?o5,?o6,?o7,?o8,?o9,?o10,?o11,?o12,?o13,?o14,?o15,?o16,?o17,trivial⟩ ?he
   any_goals (intro L vs A W H hf hd K hK)
   case hst => repeat' (first | exact trivial | refine ⟨fun _ _ _ _ _ _ h _ => h,?_⟩)
   case h0 =>
    exact HG0.out
   case o0 => have e4 : A.tmps[4]?.getD undef = .int .u64 x := H.old 4 (by kernel_rfl);go_simp;exact hK _ _ (trivial) rfl (H.glob.keep rfl)
   case o1 => have e0 : A.tmps[0]?.getD undef = .pointer (some ⟨sb,0,none⟩) := H.old 0 (by kernel_rfl);go_simp;exact hK _ _ (trivial) rfl (H.glob.keep rfl)
   case o2 => have e23 := H.iz hd 1 23 rfl rfl rfl (by kernel_rfl);go_simp;exact hK _ _ (trivial) rfl (H.glob.keep rfl)
   case o3 => have e24 := H.iz hd 2 24 rfl rfl rfl (by kernel_rfl);go_simp;exact hK _ _ (trivial) rfl (H.glob.keep rfl)
   case o4 => have e25 := H.iz hd 3 25 rfl rfl rfl (by kernel_rfl);go_simp;exact hK _ _ (trivial) rfl (H.glob.keep rfl)
   case o5 => have e26 := H.iz hd 4 26 rfl rfl rfl (by kernel_rfl);have d : W.cell? ⟨sb,7,none⟩ = some (.int .u64 (s.a 3)) := (H.glob.b.cell _).trans (sn_a s 3 (by decide));go_simp;exact hK _ _ (trivial) rfl (H.glob.keep rfl)
   case o6 => have e22 := H.iz hd 0 22 rfl rfl rfl (by kernel_rfl);have e27 := H.iz hd 5 27 rfl rfl rfl (by kernel_rfl);have hn : (x != s.a 3) = false := Hne.out;go_simp;exact hK _ _ (trivial) rfl (H.glob.keep rfl)
   case o7 => have e28 := H.iz hd 6 28 rfl rfl rfl (by kernel_rfl);go_simp;exact hK _ _ (trivial) rfl (H.glob.keep rfl)
   case o8 => have e29 := H.iz hd 7 29 rfl rfl rfl (by kernel_rfl);refine if_wanted (j := 7) (s := 29) rfl rfl rfl e29 rfl ?_;have e0 : A.tmps[0]?.getD undef = .pointer (some ⟨sb,0,none⟩) := H.old 0 (by kernel_rfl);go_simp;exact hK _ _ (trivial) rfl (H.glob.keep rfl)
   case o9 => have e29 := H.iz hd 7 29 rfl rfl rfl (by kernel_rfl);refine if_wanted (j := 7) (s := 29) rfl rfl rfl e29 rfl ?_;have e30 := H.iz hd 8 30 rfl rfl rfl (by kernel_rfl);go_simp;exact hK _ _ (trivial) rfl (H.glob.keep rfl)
   case o10 => have e29 := H.iz hd 7 29 rfl rfl rfl (by kernel_rfl);refine if_wanted (j := 7) (s := 29) rfl rfl rfl e29 rfl ?_;have e31 := H.iz hd 9 31 rfl rfl rfl (by kernel_rfl);go_simp;exact hK _ _ (trivial) rfl (H.glob.keep rfl)
   case o11 => have e29 := H.iz hd 7 29 rfl rfl rfl (by kernel_rfl);refine if_wanted (j := 7) (s := 29) rfl rfl rfl e29 rfl ?_;have e32 := H.iz hd 10 32 rfl rfl rfl (by kernel_rfl);exact wp_ld_part 154 (.tmp 32) rfl sb 4 (ev_tmp e32) (wdCells s.a) _ (sn_rowA H.glob.b) Tryz.underlying154 rfl (infoWd s.a) (hK _ _ trivial rfl (H.glob.keep rfl))
   case o12 => have e29 := H.iz hd 7 29 rfl rfl rfl (by kernel_rfl);refine if_wanted (j := 7) (s := 29) rfl rfl rfl e29 rfl ?_;have e0 : A.tmps[0]?.getD undef = .pointer (some ⟨sb,0,none⟩) := H.old 0 (by kernel_rfl);go_simp;exact hK _ _ (trivial) rfl (H.glob.keep rfl)
   case o13 => have e29 := H.iz hd 7 29 rfl rfl rfl (by kernel_rfl);refine if_wanted (j := 7) (s := 29) rfl rfl rfl e29 rfl ?_;have e34 := H.iz hd 12 34 rfl rfl rfl (by kernel_rfl);go_simp;exact hK _ _ (trivial) rfl (H.glob.keep rfl)
   case o14 => have e29 := H.iz hd 7 29 rfl rfl rfl (by kernel_rfl);refine if_wanted (j := 7) (s := 29) rfl rfl rfl e29 rfl ?_;have e35 := H.iz hd 13 35 rfl rfl rfl (by kernel_rfl);go_simp;exact hK _ _ (trivial) rfl (H.glob.keep rfl)
   case o15 => have e29 := H.iz hd 7 29 rfl rfl rfl (by kernel_rfl);refine if_wanted (j := 7) (s := 29) rfl rfl rfl e29 rfl ?_;have e36 := H.iz hd 14 36 rfl rfl rfl (by kernel_rfl);exact wp_ld_part 154 (.tmp 36) rfl sb 28 (ev_tmp e36) (wdCells s.b) _ (sn_rowB H.glob.b) Tryz.underlying154 rfl (infoWd s.b) (hK _ _ trivial rfl (H.glob.keep rfl))
   case o16 => have e29 := H.iz hd 7 29 rfl rfl rfl (by kernel_rfl);refine if_wanted (j := 7) (s := 29) rfl rfl rfl e29 rfl ?_;have e33 := H.iz hd 11 33 rfl rfl rfl (by kernel_rfl);have e37 := H.iz hd 15 37 rfl rfl rfl (by kernel_rfl);have q := eq_wd2 s.a s.b W;go_simp;exact hK _ _ (trivial) rfl (H.glob.keep rfl)
   case o17 => have e29 := H.iz hd 7 29 rfl rfl rfl (by kernel_rfl);have e38 := H.iz hd 16 38 rfl rfl rfl (by kernel_rfl);go_simp;exact hK _ _ (trivial) rfl (H.glob.keep rfl)
   case he =>
    intro vs W hlen hv
    match vs,hlen,hv with
    | [x0_,x1_,x2_,x3_,x4_,x5_,x6_,x7_,x8_,x9_,x10_,x11_,x12_,x13_,x14_,x15_,x16_,x17_],_,hv =>
    obtain rfl := isv hv 0 rfl rfl;obtain rfl := isv hv 1 rfl rfl;obtain rfl := isv hv 2 rfl rfl;obtain rfl := isv hv 3 rfl rfl;obtain rfl := isv hv 4 rfl rfl;obtain rfl := isv hv 5 rfl rfl;obtain rfl := isv hv 6 rfl rfl;obtain rfl := isv hv 7 rfl rfl;obtain rfl := isv hv 8 rfl rfl;obtain rfl := isv hv 9 rfl rfl;obtain rfl := isv hv 10 rfl rfl;obtain rfl := isv hv 11 rfl rfl;obtain rfl := isv hv 12 rfl rfl;obtain rfl := isv hv 13 rfl rfl;obtain rfl := isv hv 14 rfl rfl;obtain rfl := isv hv 15 rfl rfl;obtain rfl := isv hv 16 rfl rfl;obtain rfl := isv hv 17 rfl rfl
    intro L hall hG
    clear hv hlen
    have HG := Lib.hid hG
    clear hG hall
    simp only [fill,if_true]
    simp [Act.put]
    have HB3 := Lib.hid HG.out.b
    have HM3 := Lib.hid (HM2.out.kept HG.out.kp (fun i hi e => HS.out (e ▸ hi)))
    have HK3 := Lib.hid (HK2.out.trans (HG.out.kp.mono (S' := fun i => i = sb ∨ S i) (fun _ _ h => .inl h)))
    clear HG HG0 HB2 HM2 HK2
    cases hq : eqWd s.a s.b with
    | false =>
     rw [hq,if_pos (by decide)] at HR
     obtain rfl := HR.out
     clear hq
     have HAn := Lib.hid (anew_v s sb W HB3.out)
     go_wp2_with (fail)
     refine HAn.out.mono ?_
     rintro e w' ⟨rfl,hb4,hk4⟩
     have HB4 := Lib.hid hb4
     have HK4 := Lib.hid hk4
     clear hb4 hk4
     go_wp2_with (fail)
     go_ret2
     refine ⟨rfl,HB4.out,HM3.out.kept HK4.out (fun i hi e => HS.out (e ▸ hi)),HK3.out.trans (HK4.out.mono (fun _ _ h => .inl h))⟩
    | true =>
     rw [hq,if_neg (by decide)] at HR
     clear hq
     obtain rfl := HR.out
     clear HR
     obtain ⟨nn,hnn⟩ : ∃ nn,(ofV s.a).1 = nn := ⟨_,rfl⟩
     obtain ⟨er,her⟩ : ∃ er,(ofV s.a).2 = er := ⟨_,rfl⟩
     rw [hnn,her] at HOf ⊢
     have HNN := Lib.hid hnn
     have HER := Lib.hid her
     clear hnn her
     go_wp2_with ((with_reducible refine wpList_load_part (o := ⟨some 47,.load 154 (.tmp 46),_,_,_,_⟩) ?hg 154 (.tmp 46) ?ho sb 4 ?hx (wdCells s.a) ?dd ?hc ?hu ?hd ?hi ?_);(case hg => rfl);(case ho => rfl);(case hx => rfl);(case hc => exact sn_rowA HB3.out);(case hu => exact Tryz.underlying154);(case hd => rfl);(case hi => exact infoWd s.a))
     refine (HOf.out W).mono ?_
     rintro e w' ⟨rfl,hB⟩
     have hkb : Keeps (fun i => i = sb) W w' := (Keeps.of_below' hB).mono (fun _ _ h => h.elim)
     have HB4 := Lib.hid (HB3.out.kept (Keeps.of_below' hB) (fun h => h))
     have HK4 := Lib.hid hkb
     clear hB hkb
     go_wp2_with ((with_reducible refine wpList_store_ndm (o := ⟨none,.store 46 (.tmp 52) (.tmp 49),_,_,_,_⟩) ?hg (.tmp 52) (.tmp 49) ?ho sb 57 nn ?cs ?CC 164 ?hx ?hy ?hm ?hb ?hs ?_);(case hg => rfl);(case ho => rfl);(case hx => rfl);(case hy => rfl);(case hm => rfl);(case hb => exact HB4.out);(case hs => rw [snCells_size];decide))
     go_ret2
     have hb5 := HB4.out.mid (ndCells nn).toList 57
     rw [sn_putN] at hb5
     have hk5 := keeps_setCells (S := fun i => i = sb) (a := W) (b := sb) (.inl rfl) (ndCells nn).toList 57 HK4.out
     rw [HNN.out,HER.out]
     exact ⟨rfl,hb5,HM3.out.kept hk5 (fun i hi e => HS.out (e ▸ hi)),HK3.out.trans (hk5.mono (fun _ _ h => .inl h))⟩
end Go.Proofs.YtodgfbjjjgohgaaGreat
