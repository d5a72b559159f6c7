/-
 snap.Snap.counts: a contract.
-/
import Derived.Test.YtodgfbjjjgohgaaGreatSnbZ
namespace Go.Proofs.YtodgfbjjjgohgaaGreat
open Go.RowKit
attribute [local go_sem] Oper.semAt_some
set_option linter.unusedVariables false

structure StG (W0 : World) (sb : Nat) (s : Sn) (X : (Nat -> Bool) -> Sn) (L : Nat -> Bool) (W : World) : Prop where
 kp : Keeps (fun i => i = sb) W0 W
 b : Blk W sb (snCells (X L)) 164
 mv : (X L).mv = s.mv
 k : (X L).k = s.k
section
variable {W0 W : World} {sb : Nat} {s : Sn} {X : (Nat -> Bool) -> Sn} {L L' : Nat -> Bool}
theorem StG.start (h : Blk W0 sb (snCells s) 164) (e : X (fun _ => false) = s) : StG W0 sb s X (fun _ => false) W0.drew := ⟨(Keeps.refl _ _).drew,by rw [e];exact h.drew,by rw [e],by rw [e]⟩
theorem StG.keep (h : StG W0 sb s X L W) (e : X L' = X L) : StG W0 sb s X L' W := ⟨h.kp,by rw [e];exact h.b,by rw [e];exact h.mv,by rw [e];exact h.k⟩
theorem StG.setA (h : StG W0 sb s X L W) (i : Nat) (hi : i < 24) {x : Int} (e : { X L with a := wset (X L).a i x } = X L') : StG W0 sb s X L' (W.setCell ⟨sb,4 + i,none⟩ (.int .u64 x)) := by
 have hb := h.b.set (4 + i) (.int .u64 x)
 rw [sn_setA _ i hi,e] at hb
 exact ⟨h.kp.setCell (p := ⟨sb,4 + i,none⟩) (.inl rfl) _,hb,by rw [<- e];exact h.mv,by rw [<- e];exact h.k⟩
theorem StG.setB (h : StG W0 sb s X L W) (i : Nat) (hi : i < 24) {x : Int} (e : { X L with b := wset (X L).b i x } = X L') : StG W0 sb s X L' (W.setCell ⟨sb,28 + i,none⟩ (.int .u64 x)) := by
 have hb := h.b.set (28 + i) (.int .u64 x)
 rw [sn_setB _ i hi,e] at hb
 exact ⟨h.kp.setCell (p := ⟨sb,28 + i,none⟩) (.inl rfl) _,hb,by rw [<- e];exact h.mv,by rw [<- e];exact h.k⟩
end
structure SnP (w : World) (sb mb : Nat) (S : Nat -> Prop) (vs is : List Int) (mk : Int -> Nat -> Int) (F : Int -> List (Int × Int)) (st fl fe : Int) (d : Bool) (er : Int) (s' : Sn) (lo' : Int) (e : Ending) (w' : World) : Prop where
 e : e = .returned (.tuple #[.bool d,.int .i64 er])
 b : Blk w' sb (snCells s') 164
 m : MemP w' mb S vs is mk F lo' st fl fe
 k : Keeps (fun i => i = sb ∨ S i) w w'

def snCounts (sb : Nat) (vs : List Int) (s : Sn) : Sn := { s with a := wset s.a 3 (ldW vs (wrdA s.at_ 3)),b := wset s.b 3 (ldW vs (wrdA s.at_ 3)),step := phV sb 92 }
def cntS (s : Sn) (x : Int) (L : Nat -> Bool) : Sn := { s with a := if L 7 = true then wset s.a 3 x else s.a,b := if L 11 = true then wset s.b 3 x else s.b }
theorem cnt_all (s : Sn) (x : Int) {L : Nat -> Bool} (h7 : L 7 = true) (h11 : L 11 = true) : cntS s x L = { s with a := wset s.a 3 x,b := wset s.b 3 x } := by simp [cntS,h7,h11]
theorem cnt_0 (s : Sn) (x : Int) : cntS s x (fun _ => false) = s := rfl
theorem cnt_7 (s : Sn) (x : Int) {L : Nat -> Bool} (hf : L 7 = false) : { cntS s x L with a := wset (cntS s x L).a 3 x } = cntS s x (lset L 7) := by
 simp [cntS,lset,hf]
theorem cnt_11 (s : Sn) (x : Int) {L : Nat -> Bool} (hf : L 11 = false) : { cntS s x L with b := wset (cntS s x L).b 3 x } = cntS s x (lset L 11) := by
 simp [cntS,lset,hf]

set_option maxRecDepth 100000 in
set_option maxHeartbeats 4000000 in
theorem counts_v (w : World) (s : Sn) (sb mb : Nat) (S : Nat -> Prop) (vw is : List Int) (mk : Int -> Nat -> Int) (F : Int -> List (Int × Int)) (lo st fl fe : Int)
  (hb : Blk w sb (snCells s) 164) (hm : MemP w mb S vw is mk F lo st fl fe) (hS : ¬ S sb) (hmv : s.mv = some ⟨mb,0,none⟩) :
  Calls Tryz.prog 88 #[.pointer (some ⟨sb,0,none⟩)] w (SnP w sb mb S vw is mk F st fl fe false (atE vw.length (wrdA s.at_ 3)) (snCounts sb vw s) (ldN vw.length (wrdA s.at_ 3) lo)) := by
 obtain ⟨W0,rfl⟩ : ∃ y,y = w := ⟨_,rfl⟩
 have HWd := Lib.hid (show ∀ W,Calls Tryz.prog 91 #[.int .u64 s.at_,.int .i64 3] W fun e w' => e = .returned (.int .u64 (wrdA s.at_ 3)) /\ W = w' from fun W => word_v s.at_ 3 (by decide) W)
 obtain ⟨ad,had⟩ : ∃ ad,wrdA s.at_ 3 = ad := ⟨_,rfl⟩
 have Had := Lib.hid had
 have Had2 := Lib.hid (show 0 <= ad /\ ad <= 18446744073709551615 by rw [<- had];exact u64_rng _)
 rw [had] at HWd ⊢
 have Hc := Lib.hid (show ∀ W,Keeps S W0 W -> ∀ j,W.cell? ⟨sb,j,none⟩ = (snCells s)[j]? from fun W hk j => by rw [hk.cell (p := ⟨sb,j,none⟩) hb.lt hS];exact hb.cell j)
 have HM := Lib.hid hm
 have HB := Lib.hid hb
 have Hmv := Lib.hid hmv
 have HS := Lib.hid hS
 clear had hm hb hmv
 go_enter Tryz.func88,Tryz.ntmps88
 go_wp2_with (fail)
 refine wp_region_vals [Is (.pointer (some ⟨sb,0,none⟩)),Is (.pointer (some ⟨sb,0,none⟩)),Is (.pointer (some ⟨sb,0,none⟩)),Is (.pointer (some ⟨mb,0,none⟩)),Is (.pointer (some ⟨sb,0,none⟩)),Is (.pointer (some ⟨sb,0,none⟩)),Is (.pointer (some ⟨sb,1,none⟩)),Is (.int .u64 s.at_),Is (.int .u64 ad),Is (.tuple #[.int .u64 (ldW vw ad),.int .i64 (atE vw.length ad)]),Is (.tuple #[.int .u64 (ldW vw ad),.int .i64 (atE vw.length ad)]),Is (.int .u64 (ldW vw ad)),Is (.int .i64 (atE vw.length ad)),Is (.int .u64 (ldW vw ad)),Is (.int .i64 (atE vw.length ad))]
  (fun _ _ _ => True) (fun L W => LGp W0 mb S vw is mk F lo st fl fe ad 9 L W) (by kernel_rfl) (by kernel_rfl) (by kernel_rfl) ?hst ?h0 ⟨?o0,?o1,?o2,?o3,?o4,?o5,?o6,?o7,?o8,?o9,?o10,?o11,?o12,?o13,?o14,trivial⟩ ?he
 any_goals (intro L vs A W H hf hd K hK)
 case hst => repeat' (first | exact trivial | refine ⟨fun _ _ _ _ _ _ h _ => h,?_⟩)
 case h0 =>
  exact LGp.start HM.out
 case o0 => have e0 : A.tmps[0]?.getD undef = .pointer (some ⟨sb,0,none⟩) := H.old 0 (by kernel_rfl);go_simp;exact hK _ _ (trivial) rfl (H.glob.keep rfl)
 case o1 => have e7 := H.iz hd 0 7 rfl rfl rfl (by kernel_rfl);go_simp;exact hK _ _ (trivial) rfl (H.glob.keep rfl)
 case o2 => have e8 := H.iz hd 1 8 rfl rfl rfl (by kernel_rfl);go_simp;exact hK _ _ (trivial) rfl (H.glob.keep rfl)
 case o3 => have e9 := H.iz hd 2 9 rfl rfl rfl (by kernel_rfl);have d : W.cell? ⟨sb,0,none⟩ = some (.pointer (some ⟨mb,0,none⟩)) := (Hc.out W H.glob.kp _).trans ((sn_0 s).trans (by rw [Hmv.out]));go_simp;exact hK _ _ (trivial) rfl (H.glob.keep rfl)
 case o4 => have e0 : A.tmps[0]?.getD undef = .pointer (some ⟨sb,0,none⟩) := H.old 0 (by kernel_rfl);go_simp;exact hK _ _ (trivial) rfl (H.glob.keep rfl)
 case o5 => have e11 := H.iz hd 4 11 rfl rfl rfl (by kernel_rfl);go_simp;exact hK _ _ (trivial) rfl (H.glob.keep rfl)
 case o6 => have e12 := H.iz hd 5 12 rfl rfl rfl (by kernel_rfl);go_simp;exact hK _ _ (trivial) rfl (H.glob.keep rfl)
 case o7 => have e13 := H.iz hd 6 13 rfl rfl rfl (by kernel_rfl);have d : W.cell? ⟨sb,1,none⟩ = some (.int .u64 s.at_) := (Hc.out W H.glob.kp _).trans (sn_1 s);go_simp;exact hK _ _ (trivial) rfl (H.glob.keep rfl)
 case o8 => have e14 := H.iz hd 7 14 rfl rfl rfl (by kernel_rfl);have HL := Lib.hid (HWd.out W);go_simp;refine HL.out.mono ?_;rintro e w' ⟨rfl,rfl⟩;go_simp;exact hK _ _ trivial rfl (H.glob.keep rfl)
 case o9 => have e10 := H.iz hd 3 10 rfl rfl rfl (by kernel_rfl);have e15 := H.iz hd 8 15 rfl rfl rfl (by kernel_rfl);have HL := Lib.hid (load_w (H.glob.n hf) ad Had2.out.1 Had2.out.2);go_simp;refine HL.out.mono ?_;rintro e w' ⟨rfl,hm,hk⟩;go_simp;exact hK _ _ trivial rfl (H.glob.load hm hk)
 case o10 => have e16 := H.iz hd 9 16 rfl rfl rfl (by kernel_rfl);go_simp;exact hK _ _ (trivial) rfl (H.glob.keep rfl)
 case o11 => have e6 := H.iz hd 10 6 rfl rfl rfl (by kernel_rfl);go_simp;exact hK _ _ (trivial) rfl (H.glob.keep rfl)
 case o12 => have e6 := H.iz hd 10 6 rfl rfl rfl (by kernel_rfl);go_simp;exact hK _ _ (trivial) rfl (H.glob.keep rfl)
 case o13 => have e17 := H.iz hd 11 17 rfl rfl rfl (by kernel_rfl);go_simp;exact hK _ _ (trivial) rfl (H.glob.keep rfl)
 case o14 => have e18 := H.iz hd 12 18 rfl rfl rfl (by kernel_rfl);go_simp;exact hK _ _ (trivial) rfl (H.glob.keep rfl)
 case he =>
  intro vs W hlen hv
  match vs,hlen,hv with
  | [x0_,x1_,x2_,x3_,x4_,x5_,x6_,x7_,x8_,x9_,x10_,x11_,x12_,x13_,x14_],_,hv =>
  obtain rfl := isv hv 0 rfl rfl;obtain rfl := isv hv 1 rfl rfl;obtain rfl := isv hv 2 rfl rfl;obtain rfl := isv hv 3 rfl rfl;obtain rfl := isv hv 4 rfl rfl;obtain rfl := isv hv 5 rfl rfl;obtain rfl := isv hv 6 rfl rfl;obtain rfl := isv hv 7 rfl rfl;obtain rfl := isv hv 8 rfl rfl;obtain rfl := isv hv 9 rfl rfl;obtain rfl := isv hv 10 rfl rfl;obtain rfl := isv hv 11 rfl rfl;obtain rfl := isv hv 12 rfl rfl;obtain rfl := isv hv 13 rfl rfl;obtain rfl := isv hv 14 rfl rfl
  intro L hall hG
  clear hv hlen
  have HM1 := Lib.hid (hG.y (hall 9 (by decide)))
  have HKp := Lib.hid hG.kp
  clear hG hall
  simp only [fill,if_true]
  simp [Act.put]
  have HB2 := Lib.hid (HB.out.kept HKp.out HS.out)
  have HK2 := Lib.hid (HKp.out.mono (S' := fun i => i = sb ∨ S i) (fun _ _ h => .inr h))
  obtain ⟨x,hx⟩ : ∃ x,ldW vw ad = x := ⟨_,rfl⟩
  have HX := Lib.hid hx
  have HM2 := Lib.hid HM1.out
  clear HM1 HKp Hc HM HB
  rw [hx]
  clear hx
  go_wp2_with (fail)
  obtain ⟨W2,hW2⟩ : ∃ W2,W = W2 := ⟨_,rfl⟩
  rw [hW2] at HB2 HK2 HM2 ⊢
  clear hW2
  have HG0 := Lib.hid (show StG W2 sb s (cntS s x) (fun _ => false) W2.drew from StG.start HB2.out (cnt_0 s x))
  refine wp_region_vals [Is (.pointer (some ⟨sb,0,none⟩)),Is (.pointer (some ⟨sb,0,none⟩)),Is (.int .u64 x),Is (.int .u64 x),Is (.pointer (some ⟨sb,0,none⟩)),Is (.pointer (some ⟨sb,4,none⟩)),Is (.pointer (some ⟨sb,7,none⟩)),Any,Is (.pointer (some ⟨sb,0,none⟩)),Is (.pointer (some ⟨sb,28,none⟩)),Is (.pointer (some ⟨sb,31,none⟩)),Any]
   (fun _ _ _ => True) (fun L W => StG W2 sb s (cntS s x) L W) (by kernel_rfl) (by kernel_rfl) (by kernel_rfl) ?hst ?h0 ⟨?o0,?o1,?o2,?o3,?o4,?o5,?o6,?o7,?o8,?o9,?o10,?o11,trivial⟩ ?he
  any_goals (intro L vs A W H hf hd K hK)
  case hst => repeat' (first | exact trivial | refine ⟨fun _ _ _ _ _ _ h _ => h,?_⟩)
  case h0 =>
   exact HG0.out
  case o0 => have e0 : A.tmps[0]?.getD undef = .pointer (some ⟨sb,0,none⟩) := H.old 0 (by kernel_rfl);go_simp;exact hK _ _ (trivial) rfl (H.glob.keep rfl)
  case o1 => have e0 : A.tmps[0]?.getD undef = .pointer (some ⟨sb,0,none⟩) := H.old 0 (by kernel_rfl);go_simp;exact hK _ _ (trivial) rfl (H.glob.keep rfl)
  case o2 => have e4 : A.tmps[4]?.getD undef = .int .u64 x := H.old 4 (by kernel_rfl);go_simp;exact hK _ _ (trivial) rfl (H.glob.keep rfl)
  case o3 => have e4 : A.tmps[4]?.getD undef = .int .u64 x := H.old 4 (by kernel_rfl);go_simp;exact hK _ _ (trivial) rfl (H.glob.keep rfl)
  case o4 => have e19 := H.iz hd 0 19 rfl rfl rfl (by kernel_rfl);go_simp;exact hK _ _ (trivial) rfl (H.glob.keep rfl)
  case o5 => have e23 := H.iz hd 4 23 rfl rfl rfl (by kernel_rfl);go_simp;exact hK _ _ (trivial) rfl (H.glob.keep rfl)
  case o6 => have e24 := H.iz hd 5 24 rfl rfl rfl (by kernel_rfl);go_simp;exact hK _ _ (trivial) rfl (H.glob.keep rfl)
  case o7 => have e25 := H.iz hd 6 25 rfl rfl rfl (by kernel_rfl);have e21 := H.iz hd 2 21 rfl rfl rfl (by kernel_rfl);have d := (H.glob.b.cell (7)).trans (sn_a _ 3 (by decide));have f := H.glob.b.frozen (7);go_simp;exact hK undef _ trivial trivial (H.glob.setA 3 (by decide) (cnt_7 s x hf))
  case o8 => have e20 := H.iz hd 1 20 rfl rfl rfl (by kernel_rfl);go_simp;exact hK _ _ (trivial) rfl (H.glob.keep rfl)
  case o9 => have e26 := H.iz hd 8 26 rfl rfl rfl (by kernel_rfl);go_simp;exact hK _ _ (trivial) rfl (H.glob.keep rfl)
  case o10 => have e27 := H.iz hd 9 27 rfl rfl rfl (by kernel_rfl);go_simp;exact hK _ _ (trivial) rfl (H.glob.keep rfl)
  case o11 => have e28 := H.iz hd 10 28 rfl rfl rfl (by kernel_rfl);have e22 := H.iz hd 3 22 rfl rfl rfl (by kernel_rfl);have d := (H.glob.b.cell (31)).trans (sn_b _ 3 (by decide));have f := H.glob.b.frozen (31);go_simp;exact hK undef _ trivial trivial (H.glob.setB 3 (by decide) (cnt_11 s x hf))
  case he =>
   intro vs W hlen hv
   match vs,hlen,hv with
   | [x0_,x1_,x2_,x3_,x4_,x5_,x6_,x7_,x8_,x9_,x10_,x11_],_,hv =>
   obtain rfl := isv hv 0 rfl rfl;obtain rfl := isv hv 1 rfl rfl;obtain rfl := isv hv 2 rfl rfl;obtain rfl := isv hv 3 rfl rfl;obtain rfl := isv hv 4 rfl rfl;obtain rfl := isv hv 5 rfl rfl;obtain rfl := isv hv 6 rfl rfl;obtain rfl := isv hv 8 rfl rfl;obtain rfl := isv hv 9 rfl rfl;obtain rfl := isv hv 10 rfl rfl
   intro L hall hG
   clear hv hlen
   have HG := Lib.hid hG
   have HAll := Lib.hid hall
   clear hG hall
   simp only [fill,if_true]
   simp [Act.put]
   have hXL := cnt_all s x (HAll.out 7 (by decide)) (HAll.out 11 (by decide))
   have hb3 := HG.out.b
   rw [hXL] at hb3
   have HB3 := Lib.hid hb3
   have HM3 := Lib.hid (HM2.out.kept HG.out.kp (fun i hi e => HS.out (e ▸ hi)))
   have HK3 := Lib.hid (HK2.out.trans (HG.out.kp.mono (S' := fun i => i = sb ∨ S i) (fun _ _ h => .inl h)))
   clear hb3 hXL HG HAll HG0
   go_wp2_with ((with_reducible refine wpList_store_cellB (o := ⟨none,.store 61 (.tmp 33) (.tmp 31),_,_,_,_⟩) ?hg 61 (.tmp 33) (.tmp 31) ?ho sb 54 (phV sb 92) ?CC 164 ?hx ?hy ?h1 ?hb ?hs ?hi ?_);(case hg => rfl);(case ho => rfl);(case hx => rfl);(case hy => rfl);(case h1 => rfl);(case hb => exact HB3.out);(case hs => rw [snCells_size];decide);(case hi => exact infoFn))
   go_ret2
   have hb4 := HB3.out.set 54 (phV sb 92)
   have hk4 : Keeps (fun i => i = sb) W (W.setCell ⟨sb,54,none⟩ (phV sb 92)) := (Keeps.refl (fun i => i = sb) W).setCell (p := ⟨sb,54,none⟩) (.inl rfl) _
   rw [sn_set54] at hb4
   refine ⟨rfl,?_,HM3.out.kept hk4 (fun i hi e => HS.out (e ▸ hi)),HK3.out.trans (hk4.mono (fun _ _ h => .inl h))⟩
   unfold snCounts
   rw [Had.out,HX.out]
   exact hb4
end Go.Proofs.YtodgfbjjjgohgaaGreat
