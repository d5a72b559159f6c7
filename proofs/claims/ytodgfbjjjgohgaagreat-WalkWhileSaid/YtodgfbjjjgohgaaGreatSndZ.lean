/-
 snap.Snap.reads: a contract.
-/
import Derived.Test.YtodgfbjjjgohgaaGreatSncZ
namespace Go.Proofs.YtodgfbjjjgohgaaGreat
open Go.RowKit
attribute [local go_sem] Oper.semAt_some
set_option linter.unusedVariables false

def snGo (sb : Nat) (s : Sn) (kn : Nat) (x : Int) : Sn :=
 if 0 <= aftP kn x then { s with k := aftP kn x } else if s.last = false then { s with k := 0,last := true } else if s.a 2 ≠ 0 then { s with k := aftP kn x,step := phV sb 95 } else { s with k := aftP kn x,step := phV sb 96 }
def snReads (sb : Nat) (vw : List Int) (s : Sn) (kn : Nat) : Sn :=
 if atE vw.length (wrdA s.at_ kn) = 0 then
  (if s.last = true then (if ldW vw (wrdA s.at_ kn) ≠ s.a kn then snAnew sb { s with b := wset s.b kn (ldW vw (wrdA s.at_ kn)) } else snGo sb { s with b := wset s.b kn (ldW vw (wrdA s.at_ kn)) } kn (ldW vw (wrdA s.at_ kn)))
   else snGo sb { s with a := wset s.a kn (ldW vw (wrdA s.at_ kn)) } kn (ldW vw (wrdA s.at_ kn)))
 else s
def rdB (s : Sn) (kn : Nat) (x : Int) (L : Nat -> Bool) : Sn := { s with b := if L 9 = true then wset s.b kn x else s.b }
theorem rdB_0 (s : Sn) (kn : Nat) (x : Int) : rdB s kn x (fun _ => false) = s := rfl
theorem rdB_9 (s : Sn) (kn : Nat) (x : Int) {L : Nat -> Bool} (hf : L 9 = false) : { rdB s kn x L with b := wset (rdB s kn x L).b kn x } = rdB s kn x (lset L 9) := by
 simp [rdB,lset,hf]
theorem rdB_all (s : Sn) (kn : Nat) (x : Int) {L : Nat -> Bool} (h : L 9 = true) : rdB s kn x L = { s with b := wset s.b kn x } := by simp [rdB,h]
def rdA (s : Sn) (kn : Nat) (x : Int) (L : Nat -> Bool) : Sn := { s with a := if L 9 = true then wset s.a kn x else s.a }
theorem rdA_0 (s : Sn) (kn : Nat) (x : Int) : rdA s kn x (fun _ => false) = s := rfl
theorem rdA_9 (s : Sn) (kn : Nat) (x : Int) {L : Nat -> Bool} (hf : L 9 = false) : { rdA s kn x L with a := wset (rdA s kn x L).a kn x } = rdA s kn x (lset L 9) := by
 simp [rdA,lset,hf]
theorem rdA_all (s : Sn) (kn : Nat) (x : Int) {L : Nat -> Bool} (h : L 9 = true) : rdA s kn x L = { s with a := wset s.a kn x } := by simp [rdA,h]

set_option maxRecDepth 100000 in
set_option maxHeartbeats 8000000 in
theorem reads_v (w : World) (s : Sn) (kn sb mb : Nat) (S : Nat -> Prop) (vw is : List Int) (mk : Int -> Nat -> Int) (F : Int -> List (Int × Int)) (lo st fl fe : Int)
  (hb : Blk w sb (snCells s) 164) (hm : MemP w mb S vw is mk F lo st fl fe) (hS : ¬ S sb) (hmv : s.mv = some ⟨mb,0,none⟩) (hk : s.k = (kn : Int)) (hkn : kn < 24) :
  Calls Tryz.prog 92 #[.pointer (some ⟨sb,0,none⟩)] w (SnP w sb mb S vw is mk F st fl fe false (atE vw.length (wrdA s.at_ kn)) (snReads sb vw s kn) (ldN vw.length (wrdA s.at_ kn) lo)) := by
 obtain ⟨W0,rfl⟩ : ∃ y,y = w := ⟨_,rfl⟩
 have HWd := Lib.hid (show ∀ W,Calls Tryz.prog 91 #[.int .u64 s.at_,.int .i64 (kn : Int)] W fun e w' => e = .returned (.int .u64 (wrdA s.at_ kn)) /\ W = w' from fun W => word_v s.at_ kn hkn W)
 obtain ⟨ad,had⟩ : ∃ ad,wrdA s.at_ kn = ad := ⟨_,rfl⟩
 have HSR := Lib.hid (show snReads sb vw s kn = if atE vw.length ad = 0 then
  (if s.last = true then (if ldW vw ad ≠ s.a kn then snAnew sb { s with b := wset s.b kn (ldW vw ad) } else snGo sb { s with b := wset s.b kn (ldW vw ad) } kn (ldW vw ad))
   else snGo sb { s with a := wset s.a kn (ldW vw ad) } kn (ldW vw ad)) else s by rw [<- had];rfl)
 have Had2 := Lib.hid (show 0 <= ad /\ ad <= 18446744073709551615 by rw [<- had];exact u64_rng _)
 rw [had] at HWd ⊢
 have Hc := Lib.hid (show ∀ W,Keeps S W0 W -> ∀ j,W.cell? ⟨sb,j,none⟩ = (snCells s)[j]? from fun W hk j => by rw [hk.cell (p := ⟨sb,j,none⟩) hb.lt hS];exact hb.cell j)
 have HM := Lib.hid hm
 have HB := Lib.hid hb
 have Hmv := Lib.hid hmv
 have HS := Lib.hid hS
 have Hk := Lib.hid hk
 have Hkn := Lib.hid hkn
 have bk0 : (0 : Int) <= (kn : Int) := by omega
 have bk1 : (kn : Int) < 24 := by omega
 clear had hm hb hmv hS hk hkn
 go_enter Tryz.func92,Tryz.ntmps92
 go_wp2_with (fail)
 refine wp_region_vals [Is (.pointer (some ⟨sb,0,none⟩)),Is (.pointer (some ⟨sb,0,none⟩)),Is (.pointer (some ⟨sb,0,none⟩)),Is (.pointer (some ⟨mb,0,none⟩)),Is (.pointer (some ⟨sb,0,none⟩)),Is (.pointer (some ⟨sb,0,none⟩)),Is (.pointer (some ⟨sb,1,none⟩)),Is (.int .u64 s.at_),Is (.pointer (some ⟨sb,0,none⟩)),Is (.pointer (some ⟨sb,0,none⟩)),Is (.pointer (some ⟨sb,2,none⟩)),Is (.int .i64 (kn : Int)),Is (.int .u64 ad),Is (.tuple #[.int .u64 (ldW vw ad),.int .i64 (atE vw.length ad)]),Is (.tuple #[.int .u64 (ldW vw ad),.int .i64 (atE vw.length ad)]),Is (.int .u64 (ldW vw ad)),Is (.int .i64 (atE vw.length ad)),Is (.int .u64 (ldW vw ad)),Is (.int .i64 (atE vw.length ad))]
  (fun _ _ _ => True) (fun L W => LGp W0 mb S vw is mk F lo st fl fe ad 13 L W) (by kernel_rfl) (by kernel_rfl) (by kernel_rfl) ?hst ?h0 ⟨?o0,?o1,?o2,?o3,?o4,?o5,?o6,?o7,?o8,?o9,?o10,?o11,?o12,?o13,?o14,?o15,?o16,?o17,?o18,trivial⟩ ?he
 any_goals (intro L vs A W H hf hd K hK)
 case hst => repeat' (first | exact trivial | refine ⟨fun _ _ _ _ _ _ h _ => h,?_⟩)
 case h0 =>
  exact LGp.start HM.out
 case o0 => have e0 : A.tmps[0]?.getD undef = .pointer (some ⟨sb,0,none⟩) := H.old 0 (by kernel_rfl);go_simp;exact hK _ _ (trivial) rfl (H.glob.keep rfl)
 case o1 => have e7 := H.iz hd 0 7 rfl rfl rfl (by kernel_rfl);go_simp;exact hK _ _ (trivial) rfl (H.glob.keep rfl)
 case o2 => have e8 := H.iz hd 1 8 rfl rfl rfl (by kernel_rfl);go_simp;exact hK _ _ (trivial) rfl (H.glob.keep rfl)
 case o3 => have e9 := H.iz hd 2 9 rfl rfl rfl (by kernel_rfl);have d : W.cell? ⟨sb,0,none⟩ = some (.pointer (some ⟨mb,0,none⟩)) := (Hc.out W H.glob.kp _).trans ((sn_0 s).trans (by rw [Hmv.out]));go_simp;exact hK _ _ (trivial) rfl (H.glob.keep rfl)
 case o4 => have e0 : A.tmps[0]?.getD undef = .pointer (some ⟨sb,0,none⟩) := H.old 0 (by kernel_rfl);go_simp;exact hK _ _ (trivial) rfl (H.glob.keep rfl)
 case o5 => have e11 := H.iz hd 4 11 rfl rfl rfl (by kernel_rfl);go_simp;exact hK _ _ (trivial) rfl (H.glob.keep rfl)
 case o6 => have e12 := H.iz hd 5 12 rfl rfl rfl (by kernel_rfl);go_simp;exact hK _ _ (trivial) rfl (H.glob.keep rfl)
 case o7 => have e13 := H.iz hd 6 13 rfl rfl rfl (by kernel_rfl);have d : W.cell? ⟨sb,1,none⟩ = some (.int .u64 s.at_) := (Hc.out W H.glob.kp _).trans (sn_1 s);go_simp;exact hK _ _ (trivial) rfl (H.glob.keep rfl)
 case o8 => have e0 : A.tmps[0]?.getD undef = .pointer (some ⟨sb,0,none⟩) := H.old 0 (by kernel_rfl);go_simp;exact hK _ _ (trivial) rfl (H.glob.keep rfl)
 case o9 => have e15 := H.iz hd 8 15 rfl rfl rfl (by kernel_rfl);go_simp;exact hK _ _ (trivial) rfl (H.glob.keep rfl)
 case o10 => have e16 := H.iz hd 9 16 rfl rfl rfl (by kernel_rfl);go_simp;exact hK _ _ (trivial) rfl (H.glob.keep rfl)
 case o11 => have e17 := H.iz hd 10 17 rfl rfl rfl (by kernel_rfl);have d : W.cell? ⟨sb,2,none⟩ = some (.int .i64 (kn : Int)) := (Hc.out W H.glob.kp _).trans ((sn_2 s).trans (by rw [Hk.out]));go_simp;exact hK _ _ (trivial) rfl (H.glob.keep rfl)
 case o12 => have e14 := H.iz hd 7 14 rfl rfl rfl (by kernel_rfl);have e18 := H.iz hd 11 18 rfl rfl rfl (by kernel_rfl);have HL := Lib.hid (HWd.out W);go_simp;refine HL.out.mono ?_;rintro e w' ⟨rfl,rfl⟩;go_simp;exact hK _ _ trivial rfl (H.glob.keep rfl)
 case o13 => have e10 := H.iz hd 3 10 rfl rfl rfl (by kernel_rfl);have e19 := H.iz hd 12 19 rfl rfl rfl (by kernel_rfl);have HL := Lib.hid (load_w (H.glob.n hf) ad Had2.out.1 Had2.out.2);go_simp;refine HL.out.mono ?_;rintro e w' ⟨rfl,hm,hk⟩;go_simp;exact hK _ _ trivial rfl (H.glob.load hm hk)
 case o14 => have e20 := H.iz hd 13 20 rfl rfl rfl (by kernel_rfl);go_simp;exact hK _ _ (trivial) rfl (H.glob.keep rfl)
 case o15 => have e6 := H.iz hd 14 6 rfl rfl rfl (by kernel_rfl);go_simp;exact hK _ _ (trivial) rfl (H.glob.keep rfl)
 case o16 => have e6 := H.iz hd 14 6 rfl rfl rfl (by kernel_rfl);go_simp;exact hK _ _ (trivial) rfl (H.glob.keep rfl)
 case o17 => have e21 := H.iz hd 15 21 rfl rfl rfl (by kernel_rfl);go_simp;exact hK _ _ (trivial) rfl (H.glob.keep rfl)
 case o18 => have e22 := H.iz hd 16 22 rfl rfl rfl (by kernel_rfl);go_simp;exact hK _ _ (trivial) rfl (H.glob.keep rfl)
 case he =>
  intro vs W hlen hv
  match vs,hlen,hv with
  | [x0_,x1_,x2_,x3_,x4_,x5_,x6_,x7_,x8_,x9_,x10_,x11_,x12_,x13_,x14_,x15_,x16_,x17_,x18_],_,hv =>
  obtain rfl := isv hv 0 rfl rfl;obtain rfl := isv hv 1 rfl rfl;obtain rfl := isv hv 2 rfl rfl;obtain rfl := isv hv 3 rfl rfl;obtain rfl := isv hv 4 rfl rfl;obtain rfl := isv hv 5 rfl rfl;obtain rfl := isv hv 6 rfl rfl;obtain rfl := isv hv 7 rfl rfl;obtain rfl := isv hv 8 rfl rfl;obtain rfl := isv hv 9 rfl rfl;obtain rfl := isv hv 10 rfl rfl;obtain rfl := isv hv 11 rfl rfl;obtain rfl := isv hv 12 rfl rfl;obtain rfl := isv hv 13 rfl rfl;obtain rfl := isv hv 14 rfl rfl;obtain rfl := isv hv 15 rfl rfl;obtain rfl := isv hv 16 rfl rfl;obtain rfl := isv hv 17 rfl rfl;obtain rfl := isv hv 18 rfl rfl
  intro L hall hG
  clear hv hlen
  have HM1 := Lib.hid (hG.y (hall 13 (by decide)))
  have HKp := Lib.hid hG.kp
  clear hG hall
  simp only [fill,if_true]
  simp [Act.put]
  have HB2 := Lib.hid (HB.out.kept HKp.out HS.out)
  have HK2 := Lib.hid (HKp.out.mono (S' := fun i => i = sb ∨ S i) (fun _ _ h => .inr h))
  obtain ⟨x,hx⟩ : ∃ x,ldW vw ad = x := ⟨_,rfl⟩
  have HM2 := Lib.hid HM1.out
  clear HM1 HKp Hc HM HB
  rw [hx] at HSR ⊢
  clear hx
  rcases atE_or vw.length ad with e0 | e0
  case inr =>
   rw [e0] at HSR ⊢
   rw [if_neg (by decide)] at HSR
   go_wp2_with (fail)
   go_ret2
   refine ⟨by rw [e0];rfl,?_,HM2.out,HK2.out⟩
   rw [HSR.out]
   exact HB2.out
  rw [e0] at HSR ⊢
  rw [if_pos rfl] at HSR
  have HE0 := Lib.hid e0
  clear e0
  have d3 := (HB2.out.cell 3).trans (sn_3 s)
  obtain ⟨la,hla⟩ : ∃ la,s.last = la := ⟨_,rfl⟩
  rw [hla] at d3
  obtain ⟨W2,hW2⟩ : ∃ W2,W = W2 := ⟨_,rfl⟩
  rw [hW2] at HB2 HK2 HM2 d3 ⊢
  clear hW2
  cases la with
  | true =>
   rw [if_pos hla] at HSR
   obtain ⟨s1,hs1⟩ : ∃ s1 : Sn,{ s with b := wset s.b kn x } = s1 := ⟨_,rfl⟩
   have HS1k := Lib.hid (show s1.k = (kn : Int) by rw [<- hs1];exact Hk.out)
   have Hl1 := Lib.hid (show s1.last = true by rw [<- hs1];exact hla)
   have Ha1 : s.a kn = s1.a kn := by rw [<- hs1]
   rw [hs1,Ha1] at HSR
   have HS1 := Lib.hid hs1
   clear hs1 hla Ha1
   go_wp2_with (fail)
   have HG0 := Lib.hid (show StG W2 sb s (rdB s kn x) (fun _ => false) W2.drew from StG.start HB2.out (rdB_0 s kn x))
   refine wp_region_vals [Is (.pointer (some ⟨sb,0,none⟩)),Is (.pointer (some ⟨sb,0,none⟩)),Is (.pointer (some ⟨sb,0,none⟩)),Is (.pointer (some ⟨sb,2,none⟩)),Is (.int .i64 (kn : Int)),Is (.int .u64 x),Is (.pointer (some ⟨sb,0,none⟩)),Is (.pointer (some ⟨sb,28,none⟩)),Is (.pointer (some ⟨sb,28 + kn,none⟩)),Any]
    (fun _ _ _ => True) (fun L W => StG W2 sb s (rdB s kn x) L W) (by kernel_rfl) (by kernel_rfl) (by kernel_rfl) ?hst ?h0 ⟨?o0,?o1,?o2,?o3,?o4,?o5,?o6,?o7,?o8,?o9,trivial⟩ ?he
   any_goals (intro L vs A W H hf hd K hK)
   case hst => repeat' (first | exact trivial | refine ⟨fun _ _ _ _ _ _ h _ => h,?_⟩)
   case h0 =>
    exact HG0.out
   case o0 => have e0 : A.tmps[0]?.getD undef = .pointer (some ⟨sb,0,none⟩) := H.old 0 (by kernel_rfl);go_simp;exact hK _ _ (trivial) rfl (H.glob.keep rfl)
   case o1 => have e0 : A.tmps[0]?.getD undef = .pointer (some ⟨sb,0,none⟩) := H.old 0 (by kernel_rfl);go_simp;exact hK _ _ (trivial) rfl (H.glob.keep rfl)
   case o2 => have e31 := H.iz hd 1 31 rfl rfl rfl (by kernel_rfl);go_simp;exact hK _ _ (trivial) rfl (H.glob.keep rfl)
   case o3 => have e32 := H.iz hd 2 32 rfl rfl rfl (by kernel_rfl);go_simp;exact hK _ _ (trivial) rfl (H.glob.keep rfl)
   case o4 => have e33 := H.iz hd 3 33 rfl rfl rfl (by kernel_rfl);have d : W.cell? ⟨sb,2,none⟩ = some (.int .i64 (kn : Int)) := (H.glob.b.cell _).trans ((sn_2 _).trans (by rw [H.glob.k,Hk.out]));go_simp;exact hK _ _ (trivial) rfl (H.glob.keep rfl)
   case o5 => have e4 : A.tmps[4]?.getD undef = .int .u64 x := H.old 4 (by kernel_rfl);go_simp;exact hK _ _ (trivial) rfl (H.glob.keep rfl)
   case o6 => have e30 := H.iz hd 0 30 rfl rfl rfl (by kernel_rfl);go_simp;exact hK _ _ (trivial) rfl (H.glob.keep rfl)
   case o7 => have e36 := H.iz hd 6 36 rfl rfl rfl (by kernel_rfl);go_simp;exact hK _ _ (trivial) rfl (H.glob.keep rfl)
   case o8 => have e37 := H.iz hd 7 37 rfl rfl rfl (by kernel_rfl);have e34 := H.iz hd 4 34 rfl rfl rfl (by kernel_rfl);go_simp;exact hK _ _ (trivial) rfl (H.glob.keep rfl)
   case o9 => have e38 := H.iz hd 8 38 rfl rfl rfl (by kernel_rfl);have e35 := H.iz hd 5 35 rfl rfl rfl (by kernel_rfl);have d := (H.glob.b.cell (28 + kn)).trans (sn_b _ kn Hkn.out);have f := H.glob.b.frozen (28 + kn);go_simp;exact hK undef _ trivial trivial (H.glob.setB kn Hkn.out (rdB_9 s kn x hf))
   case he =>
    intro vs W hlen hv
    match vs,hlen,hv with
    | [x0_,x1_,x2_,x3_,x4_,x5_,x6_,x7_,x8_,x9_],_,hv =>
    obtain rfl := isv hv 0 rfl rfl;obtain rfl := isv hv 1 rfl rfl;obtain rfl := isv hv 2 rfl rfl;obtain rfl := isv hv 3 rfl rfl;obtain rfl := isv hv 4 rfl rfl;obtain rfl := isv hv 5 rfl rfl;obtain rfl := isv hv 6 rfl rfl;obtain rfl := isv hv 7 rfl rfl;obtain rfl := isv hv 8 rfl rfl
    intro L hall hG
    clear hv hlen
    have HG := Lib.hid hG
    have HAll := Lib.hid hall
    clear hG hall
    simp only [fill,if_true]
    simp [Act.put]
    have hb3 := HG.out.b
    rw [rdB_all s kn x (HAll.out 9 (by decide)),HS1.out] at hb3
    have HB3 := Lib.hid hb3
    have HM3 := Lib.hid (HM2.out.kept HG.out.kp (fun i hi e => HS.out (e ▸ hi)))
    have HK3 := Lib.hid (HK2.out.trans (HG.out.kp.mono (S' := fun i => i = sb ∨ S i) (fun _ _ h => .inl h)))
    clear hb3 HG HAll HG0 HB2 HM2 HK2 d3
    obtain ⟨W3,hW3⟩ : ∃ W3,W = W3 := ⟨_,rfl⟩
    rw [hW3] at HB3 HM3 HK3 ⊢
    clear hW3
    go_wp2_with (fail)
    have HG1 := Lib.hid (show StG W3 sb s1 (fun _ => s1) (fun _ => false) W3.drew from StG.start HB3.out rfl)
    refine wp_region_vals [Is (.int .u64 x),Is (.pointer (some ⟨sb,0,none⟩)),Is (.pointer (some ⟨sb,0,none⟩)),Is (.pointer (some ⟨sb,0,none⟩)),Is (.pointer (some ⟨sb,2,none⟩)),Is (.int .i64 (kn : Int)),Is (.pointer (some ⟨sb,0,none⟩)),Is (.pointer (some ⟨sb,4,none⟩)),Is (.pointer (some ⟨sb,4 + kn,none⟩)),Is (.int .u64 (s1.a kn)),Is (.bool (x != s1.a kn))]
     (fun _ _ _ => True) (fun L W => StG W3 sb s1 (fun _ => s1) L W) (by kernel_rfl) (by kernel_rfl) (by kernel_rfl) ?hst ?h0 ⟨?o0,?o1,?o2,?o3,?o4,?o5,?o6,?o7,?o8,?o9,?o10,trivial⟩ ?he
    any_goals (intro L vs A W H hf hd K hK)
    case hst => repeat' (first | exact trivial | refine ⟨fun _ _ _ _ _ _ h _ => h,?_⟩)
    case h0 =>
     exact HG1.out
    case o0 => have e4 : A.tmps[4]?.getD undef = .int .u64 x := H.old 4 (by kernel_rfl);go_simp;exact hK _ _ (trivial) rfl (H.glob.keep rfl)
    case o1 => have e0 : A.tmps[0]?.getD undef = .pointer (some ⟨sb,0,none⟩) := H.old 0 (by kernel_rfl);go_simp;exact hK _ _ (trivial) rfl (H.glob.keep rfl)
    case o2 => have e0 : A.tmps[0]?.getD undef = .pointer (some ⟨sb,0,none⟩) := H.old 0 (by kernel_rfl);go_simp;exact hK _ _ (trivial) rfl (H.glob.keep rfl)
    case o3 => have e41 := H.iz hd 2 41 rfl rfl rfl (by kernel_rfl);go_simp;exact hK _ _ (trivial) rfl (H.glob.keep rfl)
    case o4 => have e42 := H.iz hd 3 42 rfl rfl rfl (by kernel_rfl);go_simp;exact hK _ _ (trivial) rfl (H.glob.keep rfl)
    case o5 => have e43 := H.iz hd 4 43 rfl rfl rfl (by kernel_rfl);have d : W.cell? ⟨sb,2,none⟩ = some (.int .i64 (kn : Int)) := (H.glob.b.cell _).trans ((sn_2 _).trans (by rw [HS1k.out]));go_simp;exact hK _ _ (trivial) rfl (H.glob.keep rfl)
    case o6 => have e40 := H.iz hd 1 40 rfl rfl rfl (by kernel_rfl);go_simp;exact hK _ _ (trivial) rfl (H.glob.keep rfl)
    case o7 => have e45 := H.iz hd 6 45 rfl rfl rfl (by kernel_rfl);go_simp;exact hK _ _ (trivial) rfl (H.glob.keep rfl)
    case o8 => have e46 := H.iz hd 7 46 rfl rfl rfl (by kernel_rfl);have e44 := H.iz hd 5 44 rfl rfl rfl (by kernel_rfl);go_simp;exact hK _ _ (trivial) rfl (H.glob.keep rfl)
    case o9 => have e47 := H.iz hd 8 47 rfl rfl rfl (by kernel_rfl);have d : W.cell? ⟨sb,4 + kn,none⟩ = some (.int .u64 (s1.a kn)) := (H.glob.b.cell _).trans (sn_a s1 kn Hkn.out);go_simp;exact hK _ _ (trivial) rfl (H.glob.keep rfl)
    case o10 => have e39 := H.iz hd 0 39 rfl rfl rfl (by kernel_rfl);have e48 := H.iz hd 9 48 rfl rfl rfl (by kernel_rfl);go_simp;exact hK _ _ (trivial) rfl (H.glob.keep rfl)
    case he =>
     intro vs W hlen hv
     match vs,hlen,hv with
     | [x0_,x1_,x2_,x3_,x4_,x5_,x6_,x7_,x8_,x9_,x10_],_,hv =>
     obtain rfl := isv hv 0 rfl rfl;obtain rfl := isv hv 1 rfl rfl;obtain rfl := isv hv 2 rfl rfl;obtain rfl := isv hv 3 rfl rfl;obtain rfl := isv hv 4 rfl rfl;obtain rfl := isv hv 5 rfl rfl;obtain rfl := isv hv 6 rfl rfl;obtain rfl := isv hv 7 rfl rfl;obtain rfl := isv hv 8 rfl rfl;obtain rfl := isv hv 9 rfl rfl;obtain rfl := isv hv 10 rfl rfl
     intro L hall hG
     clear hv hlen
     have HG := Lib.hid hG
     clear hG hall
     simp only [fill,if_true]
     simp [Act.put]
     have hb3 := HG.out.b
     have hm3 := HM3.out.kept HG.out.kp (fun i hi e => HS.out (e ▸ hi))
     have hk3 := HK3.out.trans (HG.out.kp.mono (S' := fun i => i = sb ∨ S i) (fun _ _ h => .inl h))
     clear HB3 HM3 HK3 HG1 HG
     have HB3 := Lib.hid hb3
     have HM3 := Lib.hid hm3
     have HK3 := Lib.hid hk3
     clear hb3 hm3 hk3
     obtain ⟨y,hy⟩ : ∃ y,s1.a kn = y := ⟨_,rfl⟩
     rw [hy] at HSR ⊢
     clear hy
     by_cases hxy : x = y
     ·rw [if_neg (fun h => h hxy)] at HSR
      have hbn : (x != y) = false := by rw [hxy];exact bne_self_eq_false _
      rw [hbn]
      clear hxy hbn
      obtain ⟨q,hq⟩ : ∃ q,aftP kn x = q := ⟨_,rfl⟩
      have HAf := Lib.hid (fun W => after_v kn x Hkn.out W)
      rw [hq] at HAf
      have Hq := Lib.hid hq
      clear hq
      have d2 := (HB3.out.cell 2).trans (sn_2 s1)
      have d3 := (HB3.out.cell 3).trans (sn_3 s1)
      have d6 : W.cell? ⟨sb,6,none⟩ = some (.int .u64 (s1.a 2)) := (HB3.out.cell 6).trans (sn_a s1 2 (by decide))
      have f2 := HB3.out.frozen 2
      have f3 := HB3.out.frozen 3
      rw [HS1k.out] at d2
      rw [Hl1.out] at d3
      have hb4 := HB3.out.set 2 (.int .i64 q)
      rw [sn_set2] at hb4
      have hk4 : Keeps (fun i => i = sb) W (W.setCell ⟨sb,2,none⟩ (.int .i64 q)) := (Keeps.refl (fun i => i = sb) W).setCell (p := ⟨sb,2,none⟩) (.inl rfl) _
      have HB4 := Lib.hid hb4
      have HK4 := Lib.hid hk4
      clear hb4 hk4
      go_wp2_with (fail)
      refine (HAf.out _).mono ?_
      rintro e w' ⟨rfl,rfl⟩
      by_cases hq0 : 0 <= q
      ·have bq : decide (0 <= q) = true := decide_eq_true hq0
       go_wp2_with (fail)
       go_ret2
       refine ⟨by rw [HE0.out];rfl,?_,HM3.out.kept HK4.out (fun i hi e => HS.out (e ▸ hi)),HK3.out.trans (HK4.out.mono (fun _ _ h => .inl h))⟩
       rw [HSR.out];unfold snGo;rw [Hq.out,if_pos hq0]
       exact HB4.out
      ·have bq : decide (0 <= q) = false := decide_eq_false hq0
       obtain ⟨a2,ha2⟩ : ∃ a2,s1.a 2 = a2 := ⟨_,rfl⟩
       rw [ha2] at d6
       by_cases hz : a2 = 0
       ·have Hz := Lib.hid (show ¬ s1.a 2 ≠ 0 by rw [ha2];exact fun h => h hz)
        clear ha2
        rw [hz] at d6
        clear hz
        go_wp2_with ((with_reducible refine wpList_store_cellB (o := ⟨none,.store 61 (.tmp 74) (.tmp 72),_,_,_,_⟩) ?hg 61 (.tmp 74) (.tmp 72) ?ho sb 54 (phV sb 96) ?CC 164 ?hx ?hy ?h1 ?hb ?hs ?hi ?_);(case hg => rfl);(case ho => rfl);(case hx => rfl);(case hy => rfl);(case h1 => rfl);(case hb => exact HB4.out);(case hs => rw [snCells_size];decide);(case hi => exact infoFn))
        go_ret2
        have hb5 := HB4.out.set 54 (phV sb 96)
        rw [sn_set54] at hb5
        have hk5 := HK4.out.setCell (p := ⟨sb,54,none⟩) (.inl rfl) (phV sb 96)
        refine ⟨by rw [HE0.out];rfl,?_,HM3.out.kept hk5 (fun i hi e => HS.out (e ▸ hi)),HK3.out.trans (hk5.mono (fun _ _ h => .inl h))⟩
        rw [HSR.out];unfold snGo;rw [Hq.out,if_neg (Int.not_le.2 hq0),if_neg (by rw [Hl1.out];decide),if_neg Hz.out]
        exact hb5
       ·have Hz := Lib.hid (show s1.a 2 ≠ 0 by rw [ha2];exact hz)
        have hbz : (a2 != 0) = true := bne_iff_ne.2 hz
        clear ha2 hz
        go_wp2_with ((with_reducible refine wpList_store_cellB (o := ⟨none,.store 61 (.tmp 104) (.tmp 102),_,_,_,_⟩) ?hg 61 (.tmp 104) (.tmp 102) ?ho sb 54 (phV sb 95) ?CC 164 ?hx ?hy ?h1 ?hb ?hs ?hi ?_);(case hg => rfl);(case ho => rfl);(case hx => rfl);(case hy => rfl);(case h1 => rfl);(case hb => exact HB4.out);(case hs => rw [snCells_size];decide);(case hi => exact infoFn))
        go_ret2
        have hb5 := HB4.out.set 54 (phV sb 95)
        rw [sn_set54] at hb5
        have hk5 := HK4.out.setCell (p := ⟨sb,54,none⟩) (.inl rfl) (phV sb 95)
        refine ⟨by rw [HE0.out];rfl,?_,HM3.out.kept hk5 (fun i hi e => HS.out (e ▸ hi)),HK3.out.trans (hk5.mono (fun _ _ h => .inl h))⟩
        rw [HSR.out];unfold snGo;rw [Hq.out,if_neg (Int.not_le.2 hq0),if_neg (by rw [Hl1.out];decide),if_pos Hz.out]
        exact hb5
     ·rw [if_pos hxy] at HSR
      have hbn : (x != y) = true := bne_iff_ne.2 hxy
      rw [hbn]
      have HAn := Lib.hid (anew_v s1 sb W HB3.out)
      clear hxy hbn
      go_wp2_with (fail)
      refine HAn.out.mono ?_
      rintro e w' ⟨rfl,hb4,hk4⟩
      have HB4 := Lib.hid hb4
      have HK4 := Lib.hid hk4
      clear hb4 hk4
      go_wp2_with (fail)
      go_ret2
      refine ⟨by rw [HE0.out];rfl,?_,HM3.out.kept HK4.out (fun i hi e => HS.out (e ▸ hi)),HK3.out.trans (HK4.out.mono (fun _ _ h => .inl h))⟩
      rw [HSR.out]
      exact HB4.out
  | false =>
   rw [if_neg (by rw [hla];decide)] at HSR
   obtain ⟨s1,hs1⟩ : ∃ s1 : Sn,{ s with a := wset s.a kn x } = s1 := ⟨_,rfl⟩
   have HS1k := Lib.hid (show s1.k = (kn : Int) by rw [<- hs1];exact Hk.out)
   have Hl1 := Lib.hid (show s1.last = false by rw [<- hs1];exact hla)
   rw [hs1] at HSR
   have HS1 := Lib.hid hs1
   clear hs1 hla
   go_wp2_with (fail)
   have HG0 := Lib.hid (show StG W2 sb s (rdA s kn x) (fun _ => false) W2.drew from StG.start HB2.out (rdA_0 s kn x))
   refine wp_region_vals [Is (.pointer (some ⟨sb,0,none⟩)),Is (.pointer (some ⟨sb,0,none⟩)),Is (.pointer (some ⟨sb,0,none⟩)),Is (.pointer (some ⟨sb,2,none⟩)),Is (.int .i64 (kn : Int)),Is (.int .u64 x),Is (.pointer (some ⟨sb,0,none⟩)),Is (.pointer (some ⟨sb,4,none⟩)),Is (.pointer (some ⟨sb,4 + kn,none⟩)),Any]
    (fun _ _ _ => True) (fun L W => StG W2 sb s (rdA s kn x) L W) (by kernel_rfl) (by kernel_rfl) (by kernel_rfl) ?hst ?h0 ⟨?o0,?o1,?o2,?o3,?o4,?o5,?o6,?o7,?o8,?o9,trivial⟩ ?he
   any_goals (intro L vs A W H hf hd K hK)
   case hst => repeat' (first | exact trivial | refine ⟨fun _ _ _ _ _ _ h _ => h,?_⟩)
   case h0 =>
    exact HG0.out
   case o0 => have e0 : A.tmps[0]?.getD undef = .pointer (some ⟨sb,0,none⟩) := H.old 0 (by kernel_rfl);go_simp;exact hK _ _ (trivial) rfl (H.glob.keep rfl)
   case o1 => have e0 : A.tmps[0]?.getD undef = .pointer (some ⟨sb,0,none⟩) := H.old 0 (by kernel_rfl);go_simp;exact hK _ _ (trivial) rfl (H.glob.keep rfl)
   case o2 => have e53 := H.iz hd 1 53 rfl rfl rfl (by kernel_rfl);go_simp;exact hK _ _ (trivial) rfl (H.glob.keep rfl)
   case o3 => have e54 := H.iz hd 2 54 rfl rfl rfl (by kernel_rfl);go_simp;exact hK _ _ (trivial) rfl (H.glob.keep rfl)
   case o4 => have e55 := H.iz hd 3 55 rfl rfl rfl (by kernel_rfl);have d : W.cell? ⟨sb,2,none⟩ = some (.int .i64 (kn : Int)) := (H.glob.b.cell _).trans ((sn_2 _).trans (by rw [H.glob.k,Hk.out]));go_simp;exact hK _ _ (trivial) rfl (H.glob.keep rfl)
   case o5 => have e4 : A.tmps[4]?.getD undef = .int .u64 x := H.old 4 (by kernel_rfl);go_simp;exact hK _ _ (trivial) rfl (H.glob.keep rfl)
   case o6 => have e52 := H.iz hd 0 52 rfl rfl rfl (by kernel_rfl);go_simp;exact hK _ _ (trivial) rfl (H.glob.keep rfl)
   case o7 => have e58 := H.iz hd 6 58 rfl rfl rfl (by kernel_rfl);go_simp;exact hK _ _ (trivial) rfl (H.glob.keep rfl)
   case o8 => have e59 := H.iz hd 7 59 rfl rfl rfl (by kernel_rfl);have e56 := H.iz hd 4 56 rfl rfl rfl (by kernel_rfl);go_simp;exact hK _ _ (trivial) rfl (H.glob.keep rfl)
   case o9 => have e60 := H.iz hd 8 60 rfl rfl rfl (by kernel_rfl);have e57 := H.iz hd 5 57 rfl rfl rfl (by kernel_rfl);have d := (H.glob.b.cell (4 + kn)).trans (sn_a _ kn Hkn.out);have f := H.glob.b.frozen (4 + kn);go_simp;exact hK undef _ trivial trivial (H.glob.setA kn Hkn.out (rdA_9 s kn x hf))
   case he =>
    intro vs W hlen hv
    match vs,hlen,hv with
    | [x0_,x1_,x2_,x3_,x4_,x5_,x6_,x7_,x8_,x9_],_,hv =>
    obtain rfl := isv hv 0 rfl rfl;obtain rfl := isv hv 1 rfl rfl;obtain rfl := isv hv 2 rfl rfl;obtain rfl := isv hv 3 rfl rfl;obtain rfl := isv hv 4 rfl rfl;obtain rfl := isv hv 5 rfl rfl;obtain rfl := isv hv 6 rfl rfl;obtain rfl := isv hv 7 rfl rfl;obtain rfl := isv hv 8 rfl rfl
    intro L hall hG
    clear hv hlen
    have HG := Lib.hid hG
    have HAll := Lib.hid hall
    clear hG hall
    simp only [fill,if_true]
    simp [Act.put]
    have hb3 := HG.out.b
    rw [rdA_all s kn x (HAll.out 9 (by decide)),HS1.out] at hb3
    have HB3 := Lib.hid hb3
    have HM3 := Lib.hid (HM2.out.kept HG.out.kp (fun i hi e => HS.out (e ▸ hi)))
    have HK3 := Lib.hid (HK2.out.trans (HG.out.kp.mono (S' := fun i => i = sb ∨ S i) (fun _ _ h => .inl h)))
    clear hb3 HG HAll HG0 HB2 HM2 HK2 d3
    obtain ⟨q,hq⟩ : ∃ q,aftP kn x = q := ⟨_,rfl⟩
    have HAf := Lib.hid (fun W => after_v kn x Hkn.out W)
    rw [hq] at HAf
    have Hq := Lib.hid hq
    clear hq
    have d2 := (HB3.out.cell 2).trans (sn_2 s1)
    have d3 := (HB3.out.cell 3).trans (sn_3 s1)
    have d6 : W.cell? ⟨sb,6,none⟩ = some (.int .u64 (s1.a 2)) := (HB3.out.cell 6).trans (sn_a s1 2 (by decide))
    have f2 := HB3.out.frozen 2
    have f3 := HB3.out.frozen 3
    rw [HS1k.out] at d2
    rw [Hl1.out] at d3
    have hb4 := HB3.out.set 2 (.int .i64 q)
    rw [sn_set2] at hb4
    have hk4 : Keeps (fun i => i = sb) W (W.setCell ⟨sb,2,none⟩ (.int .i64 q)) := (Keeps.refl (fun i => i = sb) W).setCell (p := ⟨sb,2,none⟩) (.inl rfl) _
    have HB4 := Lib.hid hb4
    have HK4 := Lib.hid hk4
    clear hb4 hk4
    go_wp2_with (fail)
    refine (HAf.out _).mono ?_
    rintro e w' ⟨rfl,rfl⟩
    by_cases hq0 : 0 <= q
    ·have bq : decide (0 <= q) = true := decide_eq_true hq0
     go_wp2_with (fail)
     go_ret2
     refine ⟨by rw [HE0.out];rfl,?_,HM3.out.kept HK4.out (fun i hi e => HS.out (e ▸ hi)),HK3.out.trans (HK4.out.mono (fun _ _ h => .inl h))⟩
     rw [HSR.out];unfold snGo;rw [Hq.out,if_pos hq0]
     exact HB4.out
    ·have bq : decide (0 <= q) = false := decide_eq_false hq0
     go_wp2_with (fail)
     go_ret2
     have hb5 := (HB4.out.set 2 (.int .i64 0)).set 3 (.bool true)
     rw [sn_set2,sn_set3] at hb5
     have hk5 := (HK4.out.setCell (p := ⟨sb,2,none⟩) (.inl rfl) (.int .i64 0)).setCell (p := ⟨sb,3,none⟩) (.inl rfl) (.bool true)
     refine ⟨by rw [HE0.out];rfl,?_,HM3.out.kept hk5 (fun i hi e => HS.out (e ▸ hi)),HK3.out.trans (hk5.mono (fun _ _ h => .inl h))⟩
     rw [HSR.out];unfold snGo;rw [Hq.out,if_neg (Int.not_le.2 hq0),if_pos Hl1.out]
     exact hb5
end Go.Proofs.YtodgfbjjjgohgaaGreat
