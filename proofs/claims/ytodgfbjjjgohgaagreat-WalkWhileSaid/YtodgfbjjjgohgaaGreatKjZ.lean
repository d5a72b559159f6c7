/-
 AN ARENA LAID: leveelaw14.Lay: a contract.
-/
import Derived.Test.YtodgfbjjjgohgaaGreatKiZ
namespace Go.Proofs.YtodgfbjjjgohgaaGreat
open Go.RowKit
attribute [local go_sem] Oper.semAt_some
set_option linter.unusedVariables false

def OwnU (B : Nat) (l : List Int) (v : Value) (W : World) : Prop := W.ownsRow B 25 1 v l.length (l.map (Value.int .u64))
def BuildV (B slabs : Nat) (keys : List Int) (per lag : Nat) (v : Value) (W : World) : Prop :=
 (buildA slabs keys per lag = none /\ v = .pointer none) ∨
 (∃ d ab gb N vv,buildA slabs keys per lag = some d /\ v = .pointer (some ⟨ab,0,none⟩) /\ ArW W ab gb N d vv /\ LvW W (fun i => i = ab ∨ i = gb) vv d.lv /\ ArOk d /\ d.L.length <= N /\ B <= ab /\ B <= gb)
theorem BuildP.v {w w' : World} {e : Ending} {slabs : Nat} {keys : List Int} {per lag : Nat} (h : BuildP w w' e slabs keys per lag) : ∃ v,e = .returned v /\ BuildV w.heap.size slabs keys per lag v w' /\ Below w.heap.size w w' := by
 rcases h with ⟨h1,h2,h3⟩ | ⟨d,ab,gb,N,vv,h1,h2,h3,h4,h5,hN,h6,h7,h8⟩
 ·exact ⟨_,h2,.inl ⟨h1,rfl⟩,h3⟩
 ·exact ⟨_,h2,.inr ⟨d,ab,gb,N,vv,h1,rfl,h3,h4,h5,hN,h6,h7⟩,h8⟩
theorem BuildV.below {B slabs : Nat} {keys : List Int} {per lag : Nat} {v : Value} {W W' : World} (h : BuildV B slabs keys per lag v W) (hB : Below W.heap.size W W') : BuildV B slabs keys per lag v W' := by
 rcases h with h | ⟨d,ab,gb,N,vv,h1,h2,h3,h4,h5,hN,h6,h7⟩
 ·exact .inl h
 ·exact .inr ⟨d,ab,gb,N,vv,h1,h2,h3.below hB,h4.kept (Keeps.of_below' hB) (fun i e => e.elim),h5,hN,h6,h7⟩
theorem BuildV.mono {B B' slabs : Nat} {keys : List Int} {per lag : Nat} {v : Value} {W : World} (h : BuildV B slabs keys per lag v W) (hB : B' <= B) : BuildV B' slabs keys per lag v W := by
 rcases h with h | ⟨d,ab,gb,N,vv,h1,h2,h3,h4,h5,hN,h6,h7⟩
 ·exact .inl h
 ·exact .inr ⟨d,ab,gb,N,vv,h1,h2,h3,h4,h5,hN,Nat.le_trans hB h6,Nat.le_trans hB h7⟩
theorem risR_len {most : Int} : ∀ (l out : List Int),(out.length : Int) <= most -> ((risR most out l).length : Int) <= most
 | [],out,h => by unfold risR;exact h
 | x :: l,out,h => by
  unfold risR
  split
  ·refine risR_len l _ ?_
   have := insR_len out x
   omega
  ·exact h
theorem risR_mem {most : Int} : ∀ (l out : List Int),∀ y ∈ risR most out l,y ∈ out ∨ y ∈ l
 | [],out,y,h => by unfold risR at h;exact .inl h
 | x :: l,out,y,h => by
  unfold risR at h
  split at h
  ·rcases risR_mem l _ y h with h | h
   ·unfold insR at h
    split at h
    ·exact .inl h
    ·rcases List.mem_append.1 h with h | h
     ·rcases List.mem_append.1 h with h | h
      ·exact .inl (List.mem_of_mem_take h)
      ·exact .inr (by rw [List.mem_singleton.1 h];exact List.mem_cons_self)
     ·exact .inl (List.mem_of_mem_drop h)
   ·exact .inr (List.mem_cons_of_mem _ h)
  ·exact .inl h
def layBad (slabs per lag : Int) (n : Nat) : Bool := decide (slabs < 1) || decide (16 < slabs) || decide (per < 2) || decide (8 < per) || decide (lag < 0) || decide (20 < lag) || decide (60 < (n : Int))
def LayP (w w' : World) (e : Ending) (slabs per lag : Int) (l : List Int) : Prop :=
 ∃ v,e = .returned v /\ ((layBad slabs per lag l.length = true /\ v = .pointer none) ∨ (layBad slabs per lag l.length = false /\ BuildV w.heap.size slabs.toNat (risR 40 [] l) per.toNat lag.toNat v w')) /\ Below w.heap.size w w'
set_option maxRecDepth 1000000 in
set_option maxHeartbeats 40000000 in
theorem lay_v (w : World) (A : Option Addr) (c : Nat) (slabs per lag : Int) (l : List Int) (hr : Reads w w.heap.size 1 A l.length (l.map (Value.int .u64))) (hu : ∀ x ∈ l,0 <= x /\ x <= 18446744073709551615) :
  Calls Tryz.prog 7 #[.agg #[.int .i64 slabs,.slice A l.length c,.int .i64 per,.int .i64 lag]] w fun e w' => LayP w w' e slabs per lag l := by
 have HR := Lib.hid hr
 have HU := Lib.hid hu
 have hb0 := Blk.new w #[.int .i64 slabs,.slice A l.length c,.int .i64 per,.int .i64 lag] 24
 have hB0 : Below w.heap.size w (w.alloc (.cells #[.int .i64 slabs,.slice A l.length c,.int .i64 per,.int .i64 lag] 24)) := (Below.refl _ w).alloc (Nat.le_refl _) _
 obtain ⟨xb,hxb⟩ : ∃ xb,w.heap.size = xb := ⟨_,rfl⟩
 rw [hxb] at hb0
 obtain ⟨w1,hw1⟩ : ∃ w1,w.alloc (.cells #[.int .i64 slabs,.slice A l.length c,.int .i64 per,.int .i64 lag] 24) = w1 := ⟨_,rfl⟩
 rw [hw1] at hb0 hB0
 have HB0 := Lib.hid hB0
 have HBl := Lib.hid hb0
 have HW1 := Lib.hid hw1
 have HXb := Lib.hid hxb
 obtain ⟨b1,hb1⟩ : ∃ b : Bool,decide (slabs < 1) = b := ⟨_,rfl⟩
 obtain ⟨b2,hb2⟩ : ∃ b : Bool,decide (16 < slabs) = b := ⟨_,rfl⟩
 obtain ⟨b3,hb3⟩ : ∃ b : Bool,decide (per < 2) = b := ⟨_,rfl⟩
 obtain ⟨b4,hb4⟩ : ∃ b : Bool,decide (8 < per) = b := ⟨_,rfl⟩
 obtain ⟨b5,hb5⟩ : ∃ b : Bool,decide (lag < 0) = b := ⟨_,rfl⟩
 obtain ⟨b6,hb6⟩ : ∃ b : Bool,decide (20 < lag) = b := ⟨_,rfl⟩
 obtain ⟨b7,hb7⟩ : ∃ b : Bool,decide (60 < (l.length : Int)) = b := ⟨_,rfl⟩
 have HBad := Lib.hid (show layBad slabs per lag l.length = (b1 || b2 || b3 || b4 || b5 || b6 || b7) from by unfold layBad;rw [hb1,hb2,hb3,hb4,hb5,hb6,hb7])
 clear hr hu hb0 hB0 hw1
 go_enter Tryz.func7,Tryz.ntmps7
 go_upto_region 1 with (fail)
 try rw [hxb]
 rw [HW1.out]
 clear hxb
 have c0 : w1.cell? ⟨xb,0,none⟩ = some (.int .i64 slabs) := (HBl.out.cell 0).trans rfl
 have c1 : w1.cell? ⟨xb,1,none⟩ = some (.slice A l.length c) := (HBl.out.cell 1).trans rfl
 have c2 : w1.cell? ⟨xb,2,none⟩ = some (.int .i64 per) := (HBl.out.cell 2).trans rfl
 have c3 : w1.cell? ⟨xb,3,none⟩ = some (.int .i64 lag) := (HBl.out.cell 3).trans rfl
 go_cut [36] (fun s36 wx => s36 = .bool (b1 || b2 || b3 || b4 || b5 || b6 || b7) /\ w1 = wx)
 case first =>
  cases b1 with
  | true =>
   go_wp2_with (fail)
   go_meet
   exact ⟨by simp,rfl⟩
  | false =>
   cases b2 with
   | true =>
    go_wp2_with (fail)
    go_meet
    exact ⟨by simp,rfl⟩
   | false =>
    cases b3 with
    | true =>
     go_wp2_with (fail)
     go_meet
     exact ⟨by simp,rfl⟩
    | false =>
     cases b4 with
     | true =>
      go_wp2_with (fail)
      go_meet
      exact ⟨by simp,rfl⟩
     | false =>
      cases b5 with
      | true =>
       go_wp2_with (fail)
       go_meet
       exact ⟨by simp,rfl⟩
      | false =>
       cases b6 with
       | true =>
        go_wp2_with (fail)
        go_meet
        exact ⟨by simp,rfl⟩
       | false =>
        cases b7 with
        | true =>
         go_wp2_with (fail)
         go_meet
         exact ⟨by simp,rfl⟩
        | false =>
         go_wp2_with (fail)
         go_meet
         exact ⟨rfl,rfl⟩
 case rest =>
  obtain ⟨rfl,rfl⟩ := hcut
  obtain ⟨b,hb⟩ : ∃ b,(b1 || b2 || b3 || b4 || b5 || b6 || b7) = b := ⟨_,rfl⟩
  rw [hb] at HBad ⊢
  clear hb hb1 hb2 hb3 hb4 hb5 hb6 hb7 c0 c1 c2 c3
  go_upto_if 36 with (fail)
  cases b with
  | true =>
   go_wp2_with (fail)
   go_ret
   exact ⟨_,rfl,.inl ⟨HBad.out,rfl⟩,HB0.out⟩
  | false =>
   have hbd := HBad.out
   unfold layBad at hbd
   simp only [Bool.or_eq_false_iff,decide_eq_false_iff_not] at hbd
   obtain ⟨⟨⟨⟨⟨⟨d1,d2⟩,d3⟩,d4⟩,d5⟩,d6⟩,d7⟩ := hbd
   obtain ⟨sl,rfl⟩ := Int.eq_ofNat_of_zero_le (show 0 <= slabs by omega)
   obtain ⟨pe,rfl⟩ := Int.eq_ofNat_of_zero_le (show 0 <= per by omega)
   obtain ⟨la,rfl⟩ := Int.eq_ofNat_of_zero_le (show 0 <= lag by omega)
   have HSl := Lib.hid (show (1 <= sl /\ sl <= 16) /\ (2 <= pe /\ pe <= 8) /\ la <= 20 from by omega)
   have HLl := Lib.hid (show l.length <= 1000 from by omega)
   have HRi := Lib.hid (show (risR 40 [] l).length <= 100 /\ ∀ x ∈ risR 40 [] l,0 <= x /\ x <= 18446744073709551615 from ⟨by have := risR_len (most := 40) l [] (by simp);omega,fun x hx => by
    rcases risR_mem l [] x hx with h | h
    ·cases h
    ·exact HU.out x h⟩)
   have hd1 := HBl.out
   have HX := Lib.hid (show xb < w1.heap.size /\ w1.cell? ⟨xb,0,none⟩ = some (.int .i64 (sl : Nat)) /\ w1.cell? ⟨xb,1,none⟩ = some (.slice A l.length c) /\ w1.cell? ⟨xb,2,none⟩ = some (.int .i64 (pe : Nat)) /\ w1.cell? ⟨xb,3,none⟩ = some (.int .i64 (la : Nat)) from
    ⟨hd1.lt,(hd1.cell 0).trans rfl,(hd1.cell 1).trans rfl,(hd1.cell 2).trans rfl,(hd1.cell 3).trans rfl⟩)
   have HRd := Lib.hid ((HR.out.below HB0.out).more HB0.out.size)
   obtain ⟨ks,hks⟩ : ∃ ks,risR 40 [] l = ks := ⟨_,rfl⟩
   have HRv := Lib.hid (show ∀ W,Below w1.heap.size w1 W -> Calls Tryz.prog 22 #[.slice A l.length c,.int .i64 40] W fun e w' => ∃ v,e = .returned v /\ OwnU w1.heap.size ks v w' /\ Below W.heap.size W w' from fun W hB => (rising_v W A c l 40 ((HRd.out.below hB).more hB.size) HLl.out).mono (by
    rintro e w' ⟨v,rfl,ho,hB2⟩
    rw [hks] at ho
    exact ⟨v,rfl,own_mono ho hB.size,hB2⟩))
   rw [hks] at HRi
   have HBv := Lib.hid (show ∀ W ra rc,OwnU w1.heap.size ks (.slice ra ks.length rc) W -> Calls Tryz.prog 21 #[.int .i64 (sl : Nat),.slice ra ks.length rc,.int .i64 (pe : Nat),.int .i64 (la : Nat)] W fun e w' => ∃ v,e = .returned v /\ BuildV W.heap.size sl ks pe la v w' /\ Below W.heap.size W w' from fun W ra rc ho => (abuild_v W ra rc sl ks pe la (Reads.of_own ho) HRi.out.1 HRi.out.2 HSl.out.1 HSl.out.2.1 HSl.out.2.2).mono (fun _ _ h => h.v))
   have HKs := Lib.hid hks
   clear d1 d2 d3 d4 d5 d6 d7 hd1 hks
   go_upto_region 3 with (fail)
   refine wp_region_vals [Is (.pointer (some ⟨xb,0,none⟩)),Is (.int .i64 (sl : Nat)),Is (.pointer (some ⟨xb,1,none⟩)),Is (.slice A l.length c),OwnU w1.heap.size ks,Is (.pointer (some ⟨xb,2,none⟩)),Is (.int .i64 (pe : Nat)),Is (.pointer (some ⟨xb,3,none⟩)),Is (.int .i64 (la : Nat)),BuildV w1.heap.size sl ks pe la,BuildV w1.heap.size sl ks pe la]
    (fun _ W W' => Below W.heap.size W W') (fun _ W => Below w1.heap.size w1 W) (by kernel_rfl) (by kernel_rfl) (by kernel_rfl) ?hst ?h0 ⟨?o0,?o1,?o2,?o3,?o4,?o5,?o6,?o7,?o8,?o9,?o10,trivial⟩ ?he
   any_goals (intro L vs A W H hf hd K hK)
   case hst =>
    exact ⟨(fun _ _ _ _ _ _ h _ => h),(fun _ _ _ _ _ _ h _ => h),(fun _ _ _ _ _ _ h _ => h),(fun _ _ _ _ _ _ h _ => h),(fun _ _ _ _ _ _ h hR => own_belowK h hR),(fun _ _ _ _ _ _ h _ => h),(fun _ _ _ _ _ _ h _ => h),(fun _ _ _ _ _ _ h _ => h),(fun _ _ _ _ _ _ h _ => h),(fun _ _ _ _ _ _ h hR => h.below hR),(fun _ _ _ _ _ _ h hR => h.below hR),trivial⟩
   case h0 =>
    exact (Below.refl _ w1).drew
   case o0 => have e1 : A.tmps[1]?.getD undef = .pointer (some ⟨xb,0,none⟩) := H.old 1 (by kernel_rfl);go_simp;exact hK _ _ (Below.refl _ _) rfl (H.glob)
   case o1 => have e37 := H.iz hd 0 37 rfl rfl rfl (by kernel_rfl);have d := (H.glob.cell (p := ⟨xb,0,none⟩) HX.out.1).trans HX.out.2.1;go_simp;exact hK _ _ (Below.refl _ _) rfl (H.glob)
   case o2 => have e1 : A.tmps[1]?.getD undef = .pointer (some ⟨xb,0,none⟩) := H.old 1 (by kernel_rfl);go_simp;exact hK _ _ (Below.refl _ _) rfl (H.glob)
   case o3 => have e39 := H.iz hd 2 39 rfl rfl rfl (by kernel_rfl);have d := (H.glob.cell (p := ⟨xb,1,none⟩) HX.out.1).trans HX.out.2.2.1;go_simp;exact hK _ _ (Below.refl _ _) rfl (H.glob)
   case o4 => have e40 := H.iz hd 3 40 rfl rfl rfl (by kernel_rfl);have hgb := H.glob;have HL := Lib.hid (HRv.out W hgb);go_simp;refine HL.out.mono ?_;rintro e w' ⟨v,rfl,ho,hB⟩;go_simp;exact hK _ _ hB ho (hgb.trans (hB.mono hgb.size))
   case o5 => have e1 : A.tmps[1]?.getD undef = .pointer (some ⟨xb,0,none⟩) := H.old 1 (by kernel_rfl);go_simp;exact hK _ _ (Below.refl _ _) rfl (H.glob)
   case o6 => have e42 := H.iz hd 5 42 rfl rfl rfl (by kernel_rfl);have d := (H.glob.cell (p := ⟨xb,2,none⟩) HX.out.1).trans HX.out.2.2.2.1;go_simp;exact hK _ _ (Below.refl _ _) rfl (H.glob)
   case o7 => have e1 : A.tmps[1]?.getD undef = .pointer (some ⟨xb,0,none⟩) := H.old 1 (by kernel_rfl);go_simp;exact hK _ _ (Below.refl _ _) rfl (H.glob)
   case o8 => have e44 := H.iz hd 7 44 rfl rfl rfl (by kernel_rfl);have d := (H.glob.cell (p := ⟨xb,3,none⟩) HX.out.1).trans HX.out.2.2.2.2;go_simp;exact hK _ _ (Below.refl _ _) rfl (H.glob)
   case o9 => have e38 := H.iz hd 1 38 rfl rfl rfl (by kernel_rfl);obtain ⟨v41,e41,q41⟩ := H.val 4 41 rfl rfl rfl (deps_of' hd 4 (by kernel_rfl)) (by kernel_rfl);have e43 := H.iz hd 6 43 rfl rfl rfl (by kernel_rfl);have e45 := H.iz hd 8 45 rfl rfl rfl (by kernel_rfl);have hgb := H.glob;obtain ⟨ra,rl,rc,hrv⟩ := own_slice q41;subst hrv;obtain rfl : rl = ks.length := own_len q41;have HL := Lib.hid (HBv.out W ra rc q41);go_simp;refine HL.out.mono ?_;rintro e w' ⟨v,rfl,hv,hB⟩;go_simp;exact hK _ _ hB (hv.mono hgb.size) (hgb.trans (hB.mono hgb.size))
   case o10 => obtain ⟨v46,e46,q46⟩ := H.val 9 46 rfl rfl rfl (deps_of' hd 9 (by kernel_rfl)) (by kernel_rfl);rw [if_pos (show Region.wanted _ _ = true from rfl)];go_simp;exact hK _ _ (Below.refl _ _) q46 H.glob
   case he =>
    intro vs W hlen hv
    match vs,hlen,hv with
    | [x0_,x1_,x2_,x3_,x4_,x5_,x6_,x7_,x8_,x9_,x10_],_,hv =>
    obtain rfl := isv hv 0 rfl rfl;obtain rfl := isv hv 1 rfl rfl;obtain rfl := isv hv 2 rfl rfl;obtain rfl := isv hv 3 rfl rfl
    have hx4 : (OwnU w1.heap.size ks) x4_ W := by obtain ⟨z,h1,h2⟩ := hv 4 _ rfl;cases h1;exact h2
    obtain rfl := isv hv 5 rfl rfl;obtain rfl := isv hv 6 rfl rfl;obtain rfl := isv hv 7 rfl rfl;obtain rfl := isv hv 8 rfl rfl
    have hx9 : (BuildV w1.heap.size sl ks pe la) x9_ W := by obtain ⟨z,h1,h2⟩ := hv 9 _ rfl;cases h1;exact h2
    have hx10 : (BuildV w1.heap.size sl ks pe la) x10_ W := by obtain ⟨z,h1,h2⟩ := hv 10 _ rfl;cases h1;exact h2
    intro L hall hG
    clear hv hlen
    have HV := Lib.hid hx10
    have HB2 := Lib.hid hG
    clear hG hall hx4 hx9 hx10
    simp only [fill,if_true]
    simp [Act.put]
    go_wp2_with (fail)
    go_ret
    exact ⟨_,rfl,.inr ⟨HBad.out,by rw [HKs.out];simpa using HV.out.mono HB0.out.size⟩,HB0.out.trans (HB2.out.mono HB0.out.size)⟩
end Go.Proofs.YtodgfbjjjgohgaaGreat
