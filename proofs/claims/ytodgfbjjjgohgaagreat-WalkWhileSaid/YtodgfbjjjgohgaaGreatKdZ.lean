/-
 leveeref14: Arena.slab,taken,newValue,newNode: contracts.
-/
import Derived.Test.YtodgfbjjjgohgaaGreatKbZ
import Derived.Test.YtodgfbjjjgohgaaGreatPmZ
import Derived.Test.YtodgfbjjjgohgaaGreatFiZ
namespace Go.Proofs.YtodgfbjjjgohgaaGreat
open Go.RowKit
attribute [local go_sem] Oper.semAt_some
set_option linter.unusedVariables false

theorem i64_id (x : Int) (h : -9223372036854775808 <= x /\ x <= 9223372036854775807) : IntKind.i64.wrap x = x := IntWalk.i64_in x h
def arC (gb cb : Nat) (d : AD) (v : Value) : Array Value := #[.slice (some ⟨gb,0,none⟩) d.L.length cb,.int .i64 (d.slabs : Int),.int .i64 (d.used : Int),.int .i64 (d.value : Int),.int .i64 (d.values : Int),.int .i64 (d.node : Int),.int .i64 (d.nodes : Int),v]
def ArW (W : World) (ab gb cb : Nat) (d : AD) (v : Value) : Prop := ArB W ab gb cb (arC gb cb d v) d.L
theorem ArB.kept {w w' : World} {ab gb cb : Nat} {C : Array Value} {L : List UInt8} (h : ArB w ab gb cb C L) {X : Nat -> Prop} (hk : Keeps X w w') (h1 : ¬ X ab) (h2 : ¬ X gb) : ArB w' ab gb cb C L := ⟨h.a.kept hk h1,h.c,h.b.kept hk h2,h.ne⟩
theorem ArB.below {w w' : World} {ab gb cb : Nat} {C : Array Value} {L : List UInt8} (h : ArB w ab gb cb C L) (hB : Below w.heap.size w w') : ArB w' ab gb cb C L := h.kept (Keeps.of_below' hB) (fun e => e) (fun e => e)
structure ArOk (d : AD) : Prop where
 len : d.L.length = 1024 * (d.slabs + 1)
 sl : d.slabs <= 16
 us : d.used <= d.slabs
 va : d.value <= d.used
 no : d.node <= d.used
 vs : d.values <= 15
 ns : d.nodes <= 5
theorem slabA_ok {d : AD} (h : ArOk d) (c : Int) : ArOk (slabA d c).2 /\ (slabA d c).1 <= (slabA d c).2.used /\ d.used <= (slabA d c).2.used := by
 unfold slabA
 have h1 := h.len
 have h3 := h.us
 have h4 := h.va
 have h5 := h.no
 by_cases e : d.used = d.slabs
 ·rw [if_pos e]
  exact ⟨h,Nat.zero_le _,Nat.le_refl _⟩
 ·rw [if_neg e]
  refine ⟨⟨?_,h.sl,(by show d.used + 1 <= d.slabs;omega),(by show d.value <= d.used + 1;omega),(by show d.node <= d.used + 1;omega),h.vs,h.ns⟩,Nat.le_refl _,Nat.le_succ _⟩
  show (putAt d.L _ c).length = _
  rw [putAt_len c (by omega)];exact h1
set_option maxRecDepth 100000 in
set_option maxHeartbeats 4000000 in
theorem aslab_v (w : World) (ab gb cb : Nat) (d : AD) (v : Value) (c : Int) (h : ArW w ab gb cb d v) (ho : ArOk d) (h0 : 0 <= c) (h1 : c <= 18446744073709551615) :
  Calls Tryz.prog 55 #[.pointer (some ⟨ab,0,none⟩),.int .u64 c] w fun e w' => e = .returned (.int .i64 ((slabA d c).1 : Int)) /\ ArW w' ab gb cb (slabA d c).2 v /\ Keeps (fun i => i = ab ∨ i = gb) w w' := by
 have HA := Lib.hid h
 have HO := Lib.hid ho
 obtain ⟨ub,hub⟩ : ∃ ub : Bool,((d.used : Int) == (d.slabs : Int)) = ub := ⟨_,rfl⟩
 have HUb := Lib.hid hub
 clear h ho
 go_enter Tryz.func55,Tryz.ntmps55
 go_wp2_with (fail)
 refine wp_region_vals [Is (.pointer (some ⟨ab,0,none⟩)),Is (.pointer (some ⟨ab,0,none⟩)),Is (.pointer (some ⟨ab,2,none⟩)),Is (.int .i64 (d.used : Int)),Is (.pointer (some ⟨ab,0,none⟩)),Is (.pointer (some ⟨ab,0,none⟩)),Is (.pointer (some ⟨ab,1,none⟩)),Is (.int .i64 (d.slabs : Int)),Is (.bool ub)]
  (fun _ _ _ => True) (fun _ W => Below w.heap.size w W) (by kernel_rfl) (by kernel_rfl) (by kernel_rfl) ?hst ?h0 ⟨?o0,?o1,?o2,?o3,?o4,?o5,?o6,?o7,?o8,trivial⟩ ?he
 any_goals (intro L vs A W H hf hd K hK)
 case hst => repeat' (first | exact trivial | refine ⟨fun _ _ _ _ _ _ h _ => h,?_⟩)
 case h0 =>
  exact (Below.refl _ w).drew
 case o0 => have e0 : A.tmps[0]?.getD undef = .pointer (some ⟨ab,0,none⟩) := H.old 0 (by kernel_rfl);go_simp;exact hK _ _ (trivial) rfl (H.glob)
 case o1 => have e5 := H.iz hd 0 5 rfl rfl rfl (by kernel_rfl);go_simp;exact hK _ _ (trivial) rfl (H.glob)
 case o2 => have e6 := H.iz hd 1 6 rfl rfl rfl (by kernel_rfl);go_simp;exact hK _ _ (trivial) rfl (H.glob)
 case o3 => have e7 := H.iz hd 2 7 rfl rfl rfl (by kernel_rfl);have d0 : W.cell? ⟨ab,2,none⟩ = some (.int .i64 (d.used : Int)) := (H.glob.cell (p := ⟨ab,2,none⟩) HA.out.a.lt).trans ((HA.out.a.cell 2).trans rfl);go_simp;exact hK _ _ (trivial) rfl (H.glob)
 case o4 => have e0 : A.tmps[0]?.getD undef = .pointer (some ⟨ab,0,none⟩) := H.old 0 (by kernel_rfl);go_simp;exact hK _ _ (trivial) rfl (H.glob)
 case o5 => have e9 := H.iz hd 4 9 rfl rfl rfl (by kernel_rfl);go_simp;exact hK _ _ (trivial) rfl (H.glob)
 case o6 => have e10 := H.iz hd 5 10 rfl rfl rfl (by kernel_rfl);go_simp;exact hK _ _ (trivial) rfl (H.glob)
 case o7 => have e11 := H.iz hd 6 11 rfl rfl rfl (by kernel_rfl);have d0 : W.cell? ⟨ab,1,none⟩ = some (.int .i64 (d.slabs : Int)) := (H.glob.cell (p := ⟨ab,1,none⟩) HA.out.a.lt).trans ((HA.out.a.cell 1).trans rfl);go_simp;exact hK _ _ (trivial) rfl (H.glob)
 case o8 => have e8 := H.iz hd 3 8 rfl rfl rfl (by kernel_rfl);have e12 := H.iz hd 7 12 rfl rfl rfl (by kernel_rfl);have hq := HUb.out;go_simp;exact hK _ _ (trivial) rfl (H.glob)
 case he =>
  intro vs W hlen hv
  match vs,hlen,hv with
  | [x0_,x1_,x2_,x3_,x4_,x5_,x6_,x7_,x8_],_,hv =>
  obtain rfl := isv hv 0 rfl rfl;obtain rfl := isv hv 1 rfl rfl;obtain rfl := isv hv 2 rfl rfl;obtain rfl := isv hv 3 rfl rfl;obtain rfl := isv hv 4 rfl rfl;obtain rfl := isv hv 5 rfl rfl;obtain rfl := isv hv 6 rfl rfl;obtain rfl := isv hv 7 rfl rfl;obtain rfl := isv hv 8 rfl rfl
  intro L hall hG
  clear hv hlen
  have HB1 := Lib.hid hG
  clear hG hall
  simp only [fill,if_true]
  simp [Act.put]
  have HA1 := Lib.hid (HA.out.below HB1.out)
  cases ub with
  | true =>
   have he : d.used = d.slabs := by have := beq_iff_eq.1 HUb.out;omega
   have hs : slabA d c = (0,d) := by unfold slabA;rw [if_pos he]
   have HS := Lib.hid hs
   clear he hs
   go_wp2_with (fail)
   go_ret
   rw [HS.out]
   exact ⟨rfl,HA1.out,(Keeps.of_below' HB1.out).mono (fun _ _ h => h.elim)⟩
  | false =>
   have he : ¬ d.used = d.slabs := fun e => by have := HUb.out;rw [e] at this;simp at this
   have hs : slabA d c = (d.used + 1,{ d with used := d.used + 1,L := putAt d.L (1024 * (d.used + 1)) c }) := by unfold slabA;rw [if_neg he]
   have hol := HO.out.len
   have hou := HO.out.us
   have hos := HO.out.sl
   have c2 : W.cell? ⟨ab,2,none⟩ = some (.int .i64 (d.used : Int)) := (HA1.out.a.cell 2).trans rfl
   have f2 : W.frozen? ⟨ab,2,none⟩ = false := HA1.out.a.frozen 2
   have ha2 : ArB (W.setCell ⟨ab,2,none⟩ (.int .i64 ((d.used : Int) + 1))) ab gb cb (arC gb cb { d with used := d.used + 1 } v) d.L := ⟨HA1.out.a.set 2 _,rfl,HA1.out.b.other 2 _ (fun e => HA1.out.ne e.symm),HA1.out.ne⟩
   have hp := bput_v _ ab gb cb _ d.L (1024 * (d.used + 1)) c ha2 (by omega) (by omega) h0 h1
   rw [show ((1024 * (d.used + 1) : Nat) : Int) = 1024 * ((d.used : Int) + 1) by omega] at hp
   have HP := Lib.hid hp
   have hk2 : Keeps (fun i => i = ab ∨ i = gb) W (W.setCell ⟨ab,2,none⟩ (.int .i64 ((d.used : Int) + 1))) := (Keeps.refl (fun i => i = ab ∨ i = gb) W).setCell (p := ⟨ab,2,none⟩) (.inl (.inl rfl)) _
   have HK2 := Lib.hid hk2
   have HLn := Lib.hid (putAt_len (L := d.L) (a := 1024 * (d.used + 1)) c (by omega))
   have HS := Lib.hid hs
   have hub : (d.used : Int) <= 16 := by omega
   clear he hs hol hou hos ha2 hp hk2
   go_wp2_with (fail)
   refine HP.out.mono ?_
   rintro e w3 ⟨rfl,hA3,hK3⟩
   have c3 : w3.cell? ⟨ab,2,none⟩ = some (.int .i64 ((d.used : Int) + 1)) := (hA3.a.cell 2).trans rfl
   have HE := Lib.hid (show ArW w3 ab gb cb { d with used := d.used + 1,L := putAt d.L (1024 * (d.used + 1)) c } v from by unfold ArW arC;simp only [];rw [HLn.out];exact hA3)
   have HK3 := Lib.hid (((Keeps.of_below' HB1.out).mono (fun _ _ h => h.elim)).trans (HK2.out.trans (hK3.mono (fun i _ e => .inr e))))
   clear hA3 hK3 HK2 HP
   go_wp2_with (fail)
   go_ret
   rw [HS.out]
   exact ⟨rfl,HE.out,HK3.out⟩
set_option maxRecDepth 100000 in
set_option maxHeartbeats 4000000 in
theorem ataken_v (w : World) (ab gb cb : Nat) (d : AD) (v : Value) (s j : Nat) (h : ArW w ab gb cb d v) (ho : ArOk d) (hs : s <= d.slabs) (hj : j <= 15) :
  Calls Tryz.prog 56 #[.pointer (some ⟨ab,0,none⟩),.int .i64 (s : Int),.int .i64 (j : Int)] w fun e w' => e = .returned (.tuple #[]) /\ ArW w' ab gb cb (takenA d s j) v /\ Keeps (fun i => i = gb) w w' := by
 have HA := Lib.hid h
 have HO := Lib.hid ho
 have hs16 : s <= 16 := by have := ho.sl;omega
 have hol := ho.len
 have hos := ho.sl
 have hw := bword_v w ab gb cb _ d.L (1024 * s + 8) h (by omega) (by omega)
 have e8 : 1024 * s + 8 = 8 * (128 * s + 1) := by omega
 have hr : rdK d.L (1024 * s + 8) 8 = chunk d.L (128 * s + 1) := by rw [e8];exact rdK_all (by omega)
 rw [hr,show ((1024 * s + 8 : Nat) : Int) = 1024 * (s : Int) + 8 by omega] at hw
 have HW := Lib.hid hw
 obtain ⟨x,hx⟩ : ∃ x,IntKind.u64.wrap (chunk d.L (128 * s + 1) + ((2 ^ j : Nat) : Int)) = x := ⟨_,rfl⟩
 have hx0 : 0 <= x /\ x <= 18446744073709551615 := by rw [<- hx,IntKind.wrap_u64];omega
 have hp := bput_v w ab gb cb _ d.L (1024 * s + 8) x h (by omega) (by omega) hx0.1 hx0.2
 rw [show ((1024 * s + 8 : Nat) : Int) = 1024 * (s : Int) + 8 by omega] at hp
 have HP := Lib.hid hp
 have HT := Lib.hid (show takenA d s j = { d with L := putAt d.L (1024 * s + 8) x } from by unfold takenA;rw [<- hx];simp)
 have HLn := Lib.hid (putAt_len (L := d.L) (a := 1024 * s + 8) x (by omega))
 have Hx := Lib.hid hx
 clear h ho hs hol hos hw e8 hr hx hx0 hp
 go_enter Tryz.func56,Tryz.ntmps56
 go_wp2_with (fail)
 go_loopw [7,8] (fun bv iv wr => ∃ k : Nat,k <= j /\ iv = .int .i64 k /\ bv = .int .u64 ((2 ^ k : Nat) : Int) /\ w = wr) (fun _ iv _ => j - (intOf iv).toNat)
 case atStart => exact ⟨0,by omega,rfl,rfl,rfl⟩
 case round =>
  obtain ⟨k,hk,rfl,rfl,rfl⟩ := hrel
  by_cases hlt : k < j
  ·have b1 : (k : Int) < (j : Int) := by omega
   have hb : ((2 ^ k : Nat) : Int) <= 32768 := by
    have : (2 : Nat) ^ k <= 2 ^ 15 := Nat.pow_le_pow_right (by decide) (by omega)
    have e : (2 : Nat) ^ 15 = 32768 := by decide
    omega
   have he : 2 * ((2 ^ k : Nat) : Int) = ((2 ^ (k + 1) : Nat) : Int) := by rw [Nat.pow_succ];simp;omega
   have He := Lib.hid he
   have hb0 : 0 <= ((2 ^ k : Nat) : Int) := Int.natCast_nonneg _
   obtain ⟨y,hy⟩ : ∃ y : Int,((2 ^ k : Nat) : Int) = y := ⟨_,rfl⟩
   rw [hy] at hb hb0 ⊢
   have hw2 : IntKind.u64.wrap (2 * y) = 2 * y := IntWalk.u64_in _ (by omega)
   have Hy := Lib.hid hy
   have HLt := Lib.hid hlt
   have hjb : j <= 15 := hj
   clear he hy
   go_wp2_with (fail)
   go_roundw
   case rel => exact ⟨k + 1,HLt.out,by go_num,by rw [<- He.out,Hy.out],trivial⟩
   case measure => have := HLt.out;simp [intOf];omega
  ·obtain rfl : k = j := by omega
   have hb1 : (s : Int) <= 16 := by omega
   obtain ⟨y,hy⟩ : ∃ y : Int,((2 ^ k : Nat) : Int) = y := ⟨_,rfl⟩
   have hx := Hx.out
   rw [hy] at hx ⊢
   obtain ⟨z,hz⟩ : ∃ z,chunk d.L (128 * s + 1) = z := ⟨_,rfl⟩
   rw [hz] at HW hx
   clear hy hz
   go_wp2_with (fail)
   refine HW.out.mono ?_
   rintro e w2 ⟨rfl,rfl⟩
   go_wp2_with (fail)
   refine HP.out.mono ?_
   rintro e w3 ⟨rfl,hA3,hK3⟩
   have HE := Lib.hid (show ArW w3 ab gb cb (takenA d s k) v from by rw [HT.out];unfold ArW arC;simp only [];rw [HLn.out];exact hA3)
   have HK3 := Lib.hid hK3
   clear hA3 hK3
   go_wp2_with (fail)
   go_end0
   exact ⟨rfl,HE.out,HK3.out⟩
structure KtG (w1 : World) (ab gb cb : Nat) (d : AD) (v : Value) (s j : Nat) (L : Nat -> Bool) (W : World) : Prop where
 kp : Keeps (fun i => i = gb) w1 W
 n : L 9 = false -> Below w1.heap.size w1 W
 y : L 9 = true -> ArW W ab gb cb (takenA d s j) v
theorem KtG.start (w1 : World) (ab gb cb : Nat) (d : AD) (v : Value) (s j : Nat) : KtG w1 ab gb cb d v s j (fun _ => false) w1.drew := ⟨(Keeps.refl _ _).drew,fun _ => (Below.refl _ w1).drew,fun h => (by cases h)⟩
theorem KtG.keep {w1 W : World} {ab gb cb : Nat} {d : AD} {v : Value} {s j : Nat} {L L' : Nat -> Bool} (h : KtG w1 ab gb cb d v s j L W) (e : L' 9 = L 9) : KtG w1 ab gb cb d v s j L' W := ⟨h.kp,by rw [e];exact h.n,by rw [e];exact h.y⟩
theorem KtG.call {w1 W : World} {ab gb cb : Nat} {d : AD} {v : Value} {s j : Nat} {L : Nat -> Bool} (h : ArW W ab gb cb (takenA d s j) v) (hk : Keeps (fun i => i = gb) w1 W) : KtG w1 ab gb cb d v s j (lset L 9) W := ⟨hk,fun e => (by simp [lset] at e),fun _ => h⟩
set_option maxRecDepth 100000 in
set_option maxHeartbeats 8000000 in
theorem anewValue_v (w : World) (ab gb cb : Nat) (d : AD) (v : Value) (h : ArW w ab gb cb d v) (ho : ArOk d) :
  Calls Tryz.prog 31 #[.pointer (some ⟨ab,0,none⟩)] w fun e w' => e = .returned (.int .i64 ((newValueA d).1 : Int)) /\ ArW w' ab gb cb (newValueA d).2 v /\ Keeps (fun i => i = ab ∨ i = gb) w w' := by
 have HA := Lib.hid h
 have HO := Lib.hid ho
 obtain ⟨z,hz⟩ : ∃ z : Bool,((d.value : Int) == 0) = z := ⟨_,rfl⟩
 obtain ⟨y,hy⟩ : ∃ y : Bool,((d.values : Int) == 15) = y := ⟨_,rfl⟩
 have c3 : w.cell? ⟨ab,3,none⟩ = some (.int .i64 (d.value : Int)) := (h.a.cell 3).trans rfl
 have c4 : w.cell? ⟨ab,4,none⟩ = some (.int .i64 (d.values : Int)) := (h.a.cell 4).trans rfl
 have hn1 : newValue1 d = if (z || y) = true then { (slabA d 1).2 with value := (slabA d 1).1,values := 0 } else d := by
  unfold newValue1
  rw [<- hz,<- hy]
  by_cases h1 : d.value = 0
  ·rw [if_pos (.inl h1),h1];simp
  ·by_cases h2 : d.values = 15
   ·rw [if_pos (.inr h2),h2];simp
   ·rw [if_neg (fun h => h.elim h1 h2),if_neg]
    simp
    omega
 have HN1 := Lib.hid hn1
 have Hz := Lib.hid hz
 have Hy := Lib.hid hy
 clear h ho hn1
 go_enter Tryz.func31,Tryz.ntmps31
 go_upto_region 1 with (fail)
 go_cut [14] (fun s14 wx => s14 = .bool (z || y) /\ w = wx)
 case first =>
  cases z <;> cases y
  all_goals
   go_wp2_with (fail)
   go_meet
   exact ⟨rfl,rfl⟩
 case rest =>
  obtain ⟨rfl,rfl⟩ := hcut
  obtain ⟨zy,hzy⟩ : ∃ zy,(z || y) = zy := ⟨_,rfl⟩
  rw [hzy] at HN1 ⊢
  clear hz hy Hz Hy hzy c3 c4
  go_upto_if 14 with (fail)
  go_cut [] (fun wx => Hid (ArW wx ab gb cb (newValue1 d) v) /\ Hid (ArOk (newValue1 d)) /\ Hid (Keeps (fun i => i = ab ∨ i = gb) w wx))
  case first =>
   cases zy with
   | false =>
    have hd := HN1.out
    rw [if_neg (by decide)] at hd
    have HD := Lib.hid hd
    clear hd
    go_wp2_with (fail)
    go_meet
    exact ⟨Lib.hid (by rw [HD.out];exact HA.out),Lib.hid (by rw [HD.out];exact HO.out),Lib.hid (Keeps.refl _ _)⟩
   | true =>
    have hd := HN1.out
    rw [if_pos rfl] at hd
    have HD := Lib.hid hd
    have HS := Lib.hid (aslab_v w ab gb cb d v 1 HA.out HO.out (by decide) (by decide))
    have HSo := Lib.hid (slabA_ok HO.out 1)
    clear hd
    go_wp2_with (fail)
    refine HS.out.mono ?_
    rintro e w2 ⟨rfl,hA2,hK2⟩
    obtain ⟨o1,o2,o3⟩ := HSo.out
    have c3 : w2.cell? ⟨ab,3,none⟩ = some (.int .i64 ((slabA d 1).2.value : Int)) := (hA2.a.cell 3).trans rfl
    have f3 : w2.frozen? ⟨ab,3,none⟩ = false := hA2.a.frozen 3
    have hb3 := hA2.a.set 3 (.int .i64 ((slabA d 1).1 : Int))
    have c4 := (hb3.cell 4).trans (show _ = some (Value.int .i64 ((slabA d 1).2.values : Int)) from rfl)
    have f4 := hb3.frozen 4
    have HE := Lib.hid (show ArW ((w2.setCell ⟨ab,3,none⟩ (.int .i64 ((slabA d 1).1 : Int))).setCell ⟨ab,4,none⟩ (.int .i64 0)) ab gb cb (newValue1 d) v from by rw [HD.out];exact ⟨hb3.set 4 _,rfl,(hA2.b.other 3 _ (fun e => hA2.ne e.symm)).other 4 _ (fun e => hA2.ne e.symm),hA2.ne⟩)
    have HOk := Lib.hid (show ArOk (newValue1 d) from by rw [HD.out];exact ⟨o1.len,o1.sl,o1.us,o2,(by show (slabA d 1).2.node <= _;exact o1.no),Nat.zero_le _,o1.ns⟩)
    have HKk := Lib.hid (show Keeps (fun i => i = ab ∨ i = gb) w ((w2.setCell ⟨ab,3,none⟩ (.int .i64 ((slabA d 1).1 : Int))).setCell ⟨ab,4,none⟩ (.int .i64 0)) from (hK2.setCell (p := ⟨ab,3,none⟩) (.inl (.inl rfl)) _).setCell (p := ⟨ab,4,none⟩) (.inl (.inl rfl)) _)
    clear hA2 hK2 hb3 o1 o2 o3 HS HSo
    go_wp2_with (fail)
    go_meet
    exact ⟨HE,HOk,HKk⟩
  case rest =>
   obtain ⟨HA1,HO1,HK1⟩ := hcut
   obtain ⟨w1,rfl⟩ : ∃ w1,w1 = wc := ⟨_,rfl⟩
   obtain ⟨d1,hd1⟩ : ∃ d1,newValue1 d = d1 := ⟨_,rfl⟩
   have HDd := Lib.hid (show newValueA d = if d1.value = 0 then (0,d1) else (1024 * d1.value + 64 * (d1.values + 1),{ takenA d1 d1.value d1.values with values := d1.values + 1 }) from by unfold newValueA;rw [hd1])
   rw [hd1] at HA1 HO1
   clear hd1 HN1 HA HO
   have c3 : w1.cell? ⟨ab,3,none⟩ = some (.int .i64 (d1.value : Int)) := (HA1.out.a.cell 3).trans rfl
   by_cases h0 : d1.value = 0
   ·have hq : ((d1.value : Int) == 0) = true := by rw [h0];rfl
    have H0 := Lib.hid h0
    clear h0
    go_wp2_with (fail)
    go_ret
    rw [HDd.out,if_pos H0.out]
    exact ⟨rfl,HA1.out,HK1.out⟩
   ·have hq : ((d1.value : Int) == 0) = false := beq_eq_false_iff_ne.2 (by omega)
    have H0 := Lib.hid h0
    have HSl := Lib.hid (show d1.value <= d1.slabs from by have := HO1.out.va;have := HO1.out.no;have := HO1.out.us;omega)
    have HJl := Lib.hid (show d1.values <= 15 from by have := HO1.out.vs;have := HO1.out.ns;omega)
    clear h0
    go_wp2_with (fail)
    refine wp_region_vals [Is (.pointer (some ⟨ab,0,none⟩)),Is (.pointer (some ⟨ab,0,none⟩)),Is (.pointer (some ⟨ab,0,none⟩)),Is (.pointer (some ⟨ab,3,none⟩)),Is (.int .i64 (d1.value : Int)),Is (.pointer (some ⟨ab,0,none⟩)),Is (.pointer (some ⟨ab,0,none⟩)),Is (.pointer (some ⟨ab,4,none⟩)),Is (.int .i64 (d1.values : Int)),Is (.tuple #[])]
     (fun _ _ _ => True) (fun L W => KtG w1 ab gb cb d1 v d1.value d1.values L W) (by kernel_rfl) (by kernel_rfl) (by kernel_rfl) ?hst ?h0 ⟨?o0,?o1,?o2,?o3,?o4,?o5,?o6,?o7,?o8,?o9,trivial⟩ ?he
    any_goals (intro L vs A W H hf hd K hK)
    case hst => repeat' (first | exact trivial | refine ⟨fun _ _ _ _ _ _ h _ => h,?_⟩)
    case h0 =>
     exact KtG.start w1 ab gb cb d1 v d1.value d1.values
    case o0 => have e0 : A.tmps[0]?.getD undef = .pointer (some ⟨ab,0,none⟩) := H.old 0 (by kernel_rfl);go_simp;exact hK _ _ (trivial) rfl (H.glob.keep rfl)
    case o1 => have e0 : A.tmps[0]?.getD undef = .pointer (some ⟨ab,0,none⟩) := H.old 0 (by kernel_rfl);go_simp;exact hK _ _ (trivial) rfl (H.glob.keep rfl)
    case o2 => have e29 := H.iz hd 1 29 rfl rfl rfl (by kernel_rfl);go_simp;exact hK _ _ (trivial) rfl (H.glob.keep rfl)
    case o3 => have e30 := H.iz hd 2 30 rfl rfl rfl (by kernel_rfl);go_simp;exact hK _ _ (trivial) rfl (H.glob.keep rfl)
    case o4 => have e31 := H.iz hd 3 31 rfl rfl rfl (by kernel_rfl);have d0 : W.cell? ⟨ab,3,none⟩ = some (.int .i64 (d1.value : Int)) := (H.glob.kp.cell (p := ⟨ab,3,none⟩) HA1.out.a.lt HA1.out.ne).trans ((HA1.out.a.cell 3).trans rfl);go_simp;exact hK _ _ (trivial) rfl (H.glob.keep rfl)
    case o5 => have e0 : A.tmps[0]?.getD undef = .pointer (some ⟨ab,0,none⟩) := H.old 0 (by kernel_rfl);go_simp;exact hK _ _ (trivial) rfl (H.glob.keep rfl)
    case o6 => have e33 := H.iz hd 5 33 rfl rfl rfl (by kernel_rfl);go_simp;exact hK _ _ (trivial) rfl (H.glob.keep rfl)
    case o7 => have e34 := H.iz hd 6 34 rfl rfl rfl (by kernel_rfl);go_simp;exact hK _ _ (trivial) rfl (H.glob.keep rfl)
    case o8 => have e35 := H.iz hd 7 35 rfl rfl rfl (by kernel_rfl);have d0 : W.cell? ⟨ab,4,none⟩ = some (.int .i64 (d1.values : Int)) := (H.glob.kp.cell (p := ⟨ab,4,none⟩) HA1.out.a.lt HA1.out.ne).trans ((HA1.out.a.cell 4).trans rfl);go_simp;exact hK _ _ (trivial) rfl (H.glob.keep rfl)
    case o9 => have e28 := H.iz hd 0 28 rfl rfl rfl (by kernel_rfl);have e32 := H.iz hd 4 32 rfl rfl rfl (by kernel_rfl);have e36 := H.iz hd 8 36 rfl rfl rfl (by kernel_rfl);have HB := Lib.hid (H.glob.n hf);have HL := Lib.hid (ataken_v W ab gb cb d1 v d1.value d1.values (HA1.out.below HB.out) HO1.out HSl.out HJl.out);go_simp;refine HL.out.mono ?_;rintro e w' ⟨rfl,hA,hk⟩;go_simp;exact hK _ _ trivial rfl (KtG.call hA (((Keeps.of_below' HB.out).mono (fun _ _ h => h.elim)).trans hk))
    case he =>
     intro vs W hlen hv
     match vs,hlen,hv with
     | [x0_,x1_,x2_,x3_,x4_,x5_,x6_,x7_,x8_,x9_],_,hv =>
     obtain rfl := isv hv 0 rfl rfl;obtain rfl := isv hv 1 rfl rfl;obtain rfl := isv hv 2 rfl rfl;obtain rfl := isv hv 3 rfl rfl;obtain rfl := isv hv 4 rfl rfl;obtain rfl := isv hv 5 rfl rfl;obtain rfl := isv hv 6 rfl rfl;obtain rfl := isv hv 7 rfl rfl;obtain rfl := isv hv 8 rfl rfl;obtain rfl := isv hv 9 rfl rfl
     intro L hall hG
     clear hv hlen
     have HG1 := Lib.hid (hG.y (hall 9 (by decide)))
     have HKt := Lib.hid hG.kp
     clear hG hall
     simp only [fill,if_true]
     simp [Act.put]
     clear c3 hq
     have c4 : W.cell? ⟨ab,4,none⟩ = some (.int .i64 (d1.values : Int)) := (HG1.out.a.cell 4).trans rfl
     have f4 : W.frozen? ⟨ab,4,none⟩ = false := HG1.out.a.frozen 4
     have hb4 : (d1.values : Int) <= 15 := by have := HJl.out;omega
     obtain ⟨d3,hd3⟩ : ∃ d3 : AD,{ takenA d1 d1.value d1.values with values := d1.values + 1 } = d3 := ⟨_,rfl⟩
     have ha3 : ArW (W.setCell ⟨ab,4,none⟩ (.int .i64 ((d1.values : Int) + 1))) ab gb cb d3 v := by rw [<- hd3];exact ⟨HG1.out.a.set 4 _,rfl,HG1.out.b.other 4 _ (fun e => HG1.out.ne e.symm),HG1.out.ne⟩
     have HKs := Lib.hid ((HK1.out.trans (HKt.out.mono (fun i _ e => .inr e))).setCell (p := ⟨ab,4,none⟩) (.inl (.inl rfl)) (.int .i64 ((d1.values : Int) + 1)))
     have HD3 := Lib.hid (show d3.value = d1.value /\ d3.values = d1.values + 1 from by rw [<- hd3];exact ⟨rfl,rfl⟩)
     rw [hd3,if_neg H0.out] at HDd
     have HA3 := Lib.hid ha3
     have Hvl := Lib.hid (show (d3.value : Int) <= 16 from by have := HD3.out.1;have := HSl.out;have := HO1.out.sl;omega)
     have Hvs := Lib.hid (show (d3.values : Int) <= 16 /\ (1 : Int) <= (d3.values : Int) from by have := HD3.out.2;have := HJl.out;omega)
     clear hd3 ha3
     go_upto_region 8 with (fail)
     obtain ⟨w3,hw3⟩ : ∃ w3,W.setCell ⟨ab,4,none⟩ (.int .i64 ((d1.values : Int) + 1)) = w3 := ⟨_,rfl⟩
     rw [hw3] at HA3 HKs ⊢
     clear hw3 c4 f4 hb4 HG1 HKt
     refine wp_region_vals [Is (.pointer (some ⟨ab,0,none⟩)),Is (.pointer (some ⟨ab,0,none⟩)),Is (.pointer (some ⟨ab,3,none⟩)),Is (.int .i64 (d3.value : Int)),Is (.int .i64 (1024 * (d3.value : Int))),Is (.pointer (some ⟨ab,0,none⟩)),Is (.pointer (some ⟨ab,0,none⟩)),Is (.pointer (some ⟨ab,4,none⟩)),Is (.int .i64 (d3.values : Int)),Is (.int .i64 (64 * (d3.values : Int))),Is (.int .i64 (1024 * (d3.value : Int) + 64 * (d3.values : Int))),Is (.int .i64 (1024 * (d3.value : Int) + 64 * (d3.values : Int)))]
      (fun _ _ _ => True) (fun _ W => Below w3.heap.size w3 W) (by kernel_rfl) (by kernel_rfl) (by kernel_rfl) ?hst ?h0 ⟨?o0,?o1,?o2,?o3,?o4,?o5,?o6,?o7,?o8,?o9,?o10,?o11,trivial⟩ ?he
     any_goals (intro L vs A W H hf hd K hK)
     case hst => repeat' (first | exact trivial | refine ⟨fun _ _ _ _ _ _ h _ => h,?_⟩)
     case h0 =>
      exact (Below.refl _ w3).drew
     case o0 => have e0 : A.tmps[0]?.getD undef = .pointer (some ⟨ab,0,none⟩) := H.old 0 (by kernel_rfl);go_simp;exact hK _ _ (trivial) rfl (H.glob)
     case o1 => have e45 := H.iz hd 0 45 rfl rfl rfl (by kernel_rfl);go_simp;exact hK _ _ (trivial) rfl (H.glob)
     case o2 => have e46 := H.iz hd 1 46 rfl rfl rfl (by kernel_rfl);go_simp;exact hK _ _ (trivial) rfl (H.glob)
     case o3 => have e47 := H.iz hd 2 47 rfl rfl rfl (by kernel_rfl);have d0 : W.cell? ⟨ab,3,none⟩ = some (.int .i64 (d3.value : Int)) := (H.glob.cell (p := ⟨ab,3,none⟩) HA3.out.a.lt).trans ((HA3.out.a.cell 3).trans rfl);go_simp;exact hK _ _ (trivial) rfl (H.glob)
     case o4 => have e48 := H.iz hd 3 48 rfl rfl rfl (by kernel_rfl);have hb : IntKind.i64.wrap (1024 * (d3.value : Int)) = (1024 * (d3.value : Int)) := i64_id _ (by have := Hvl.out;have := Hvs.out;omega);go_simp;exact hK _ _ (trivial) rfl (H.glob)
     case o5 => have e0 : A.tmps[0]?.getD undef = .pointer (some ⟨ab,0,none⟩) := H.old 0 (by kernel_rfl);go_simp;exact hK _ _ (trivial) rfl (H.glob)
     case o6 => have e50 := H.iz hd 5 50 rfl rfl rfl (by kernel_rfl);go_simp;exact hK _ _ (trivial) rfl (H.glob)
     case o7 => have e51 := H.iz hd 6 51 rfl rfl rfl (by kernel_rfl);go_simp;exact hK _ _ (trivial) rfl (H.glob)
     case o8 => have e52 := H.iz hd 7 52 rfl rfl rfl (by kernel_rfl);have d0 : W.cell? ⟨ab,4,none⟩ = some (.int .i64 (d3.values : Int)) := (H.glob.cell (p := ⟨ab,4,none⟩) HA3.out.a.lt).trans ((HA3.out.a.cell 4).trans rfl);go_simp;exact hK _ _ (trivial) rfl (H.glob)
     case o9 => have e53 := H.iz hd 8 53 rfl rfl rfl (by kernel_rfl);have hb : IntKind.i64.wrap (64 * (d3.values : Int)) = (64 * (d3.values : Int)) := i64_id _ (by have := Hvl.out;have := Hvs.out;omega);go_simp;exact hK _ _ (trivial) rfl (H.glob)
     case o10 => have e49 := H.iz hd 4 49 rfl rfl rfl (by kernel_rfl);have e54 := H.iz hd 9 54 rfl rfl rfl (by kernel_rfl);have hb : IntKind.i64.wrap (1024 * (d3.value : Int) + 64 * (d3.values : Int)) = (1024 * (d3.value : Int) + 64 * (d3.values : Int)) := i64_id _ (by have := Hvl.out;have := Hvs.out;omega);go_simp;exact hK _ _ (trivial) rfl (H.glob)
     case o11 => have e55 := H.iz hd 10 55 rfl rfl rfl (by kernel_rfl);go_simp;exact hK _ _ (trivial) rfl (H.glob)
     case he =>
      intro vs W hlen hv
      match vs,hlen,hv with
      | [x0_,x1_,x2_,x3_,x4_,x5_,x6_,x7_,x8_,x9_,x10_,x11_],_,hv =>
      obtain rfl := isv hv 0 rfl rfl;obtain rfl := isv hv 1 rfl rfl;obtain rfl := isv hv 2 rfl rfl;obtain rfl := isv hv 3 rfl rfl;obtain rfl := isv hv 4 rfl rfl;obtain rfl := isv hv 5 rfl rfl;obtain rfl := isv hv 6 rfl rfl;obtain rfl := isv hv 7 rfl rfl;obtain rfl := isv hv 8 rfl rfl;obtain rfl := isv hv 9 rfl rfl;obtain rfl := isv hv 10 rfl rfl;obtain rfl := isv hv 11 rfl rfl
      intro L hall hG
      clear hv hlen
      have HB3 := Lib.hid hG
      clear hG hall
      simp only [fill,if_true]
      simp [Act.put]
      have HKf := Lib.hid (HKs.out.trans ((Keeps.of_below' HB3.out).mono (fun _ _ h => h.elim)))
      have HAf := Lib.hid (HA3.out.below HB3.out)
      have HRt := Lib.hid (show 1024 * (d3.value : Int) + 64 * (d3.values : Int) = ((newValueA d).1 : Int) from by rw [HDd.out];have := HD3.out.1;have := HD3.out.2;simp only [];omega)
      clear HA3 HKs HB3
      go_wp2_with (fail)
      go_ret
      rw [HRt.out,HDd.out]
      exact ⟨rfl,HAf.out,HKf.out⟩
set_option maxRecDepth 100000 in
set_option maxHeartbeats 8000000 in
theorem anewNode_v (w : World) (ab gb cb : Nat) (d : AD) (v : Value) (h : ArW w ab gb cb d v) (ho : ArOk d) :
  Calls Tryz.prog 58 #[.pointer (some ⟨ab,0,none⟩)] w fun e w' => e = .returned (.int .i64 ((newNodeA d).1 : Int)) /\ ArW w' ab gb cb (newNodeA d).2 v /\ Keeps (fun i => i = ab ∨ i = gb) w w' := by
 have HA := Lib.hid h
 have HO := Lib.hid ho
 obtain ⟨z,hz⟩ : ∃ z : Bool,((d.node : Int) == 0) = z := ⟨_,rfl⟩
 obtain ⟨y,hy⟩ : ∃ y : Bool,((d.nodes : Int) == 5) = y := ⟨_,rfl⟩
 have c3 : w.cell? ⟨ab,5,none⟩ = some (.int .i64 (d.node : Int)) := (h.a.cell 5).trans rfl
 have c4 : w.cell? ⟨ab,6,none⟩ = some (.int .i64 (d.nodes : Int)) := (h.a.cell 6).trans rfl
 have hn1 : newNode1 d = if (z || y) = true then { (slabA d 3).2 with node := (slabA d 3).1,nodes := 0 } else d := by
  unfold newNode1
  rw [<- hz,<- hy]
  by_cases h1 : d.node = 0
  ·rw [if_pos (.inl h1),h1];simp
  ·by_cases h2 : d.nodes = 5
   ·rw [if_pos (.inr h2),h2];simp
   ·rw [if_neg (fun h => h.elim h1 h2),if_neg]
    simp
    omega
 have HN1 := Lib.hid hn1
 have Hz := Lib.hid hz
 have Hy := Lib.hid hy
 clear h ho hn1
 go_enter Tryz.func58,Tryz.ntmps58
 go_upto_region 1 with (fail)
 go_cut [14] (fun s14 wx => s14 = .bool (z || y) /\ w = wx)
 case first =>
  cases z <;> cases y
  all_goals
   go_wp2_with (fail)
   go_meet
   exact ⟨rfl,rfl⟩
 case rest =>
  obtain ⟨rfl,rfl⟩ := hcut
  obtain ⟨zy,hzy⟩ : ∃ zy,(z || y) = zy := ⟨_,rfl⟩
  rw [hzy] at HN1 ⊢
  clear hz hy Hz Hy hzy c3 c4
  go_upto_if 14 with (fail)
  go_cut [] (fun wx => Hid (ArW wx ab gb cb (newNode1 d) v) /\ Hid (ArOk (newNode1 d)) /\ Hid (Keeps (fun i => i = ab ∨ i = gb) w wx))
  case first =>
   cases zy with
   | false =>
    have hd := HN1.out
    rw [if_neg (by decide)] at hd
    have HD := Lib.hid hd
    clear hd
    go_wp2_with (fail)
    go_meet
    exact ⟨Lib.hid (by rw [HD.out];exact HA.out),Lib.hid (by rw [HD.out];exact HO.out),Lib.hid (Keeps.refl _ _)⟩
   | true =>
    have hd := HN1.out
    rw [if_pos rfl] at hd
    have HD := Lib.hid hd
    have HS := Lib.hid (aslab_v w ab gb cb d v 3 HA.out HO.out (by decide) (by decide))
    have HSo := Lib.hid (slabA_ok HO.out 3)
    clear hd
    go_wp2_with (fail)
    refine HS.out.mono ?_
    rintro e w2 ⟨rfl,hA2,hK2⟩
    obtain ⟨o1,o2,o3⟩ := HSo.out
    have c3 : w2.cell? ⟨ab,5,none⟩ = some (.int .i64 ((slabA d 3).2.node : Int)) := (hA2.a.cell 5).trans rfl
    have f3 : w2.frozen? ⟨ab,5,none⟩ = false := hA2.a.frozen 5
    have hb3 := hA2.a.set 5 (.int .i64 ((slabA d 3).1 : Int))
    have c4 := (hb3.cell 6).trans (show _ = some (Value.int .i64 ((slabA d 3).2.nodes : Int)) from rfl)
    have f4 := hb3.frozen 6
    have HE := Lib.hid (show ArW ((w2.setCell ⟨ab,5,none⟩ (.int .i64 ((slabA d 3).1 : Int))).setCell ⟨ab,6,none⟩ (.int .i64 0)) ab gb cb (newNode1 d) v from by rw [HD.out];exact ⟨hb3.set 6 _,rfl,(hA2.b.other 5 _ (fun e => hA2.ne e.symm)).other 6 _ (fun e => hA2.ne e.symm),hA2.ne⟩)
    have HOk := Lib.hid (show ArOk (newNode1 d) from by rw [HD.out];exact ⟨o1.len,o1.sl,o1.us,(by show (slabA d 3).2.value <= _;exact o1.va),o2,o1.vs,Nat.zero_le _⟩)
    have HKk := Lib.hid (show Keeps (fun i => i = ab ∨ i = gb) w ((w2.setCell ⟨ab,5,none⟩ (.int .i64 ((slabA d 3).1 : Int))).setCell ⟨ab,6,none⟩ (.int .i64 0)) from (hK2.setCell (p := ⟨ab,5,none⟩) (.inl (.inl rfl)) _).setCell (p := ⟨ab,6,none⟩) (.inl (.inl rfl)) _)
    clear hA2 hK2 hb3 o1 o2 o3 HS HSo
    go_wp2_with (fail)
    go_meet
    exact ⟨HE,HOk,HKk⟩
  case rest =>
   obtain ⟨HA1,HO1,HK1⟩ := hcut
   obtain ⟨w1,rfl⟩ : ∃ w1,w1 = wc := ⟨_,rfl⟩
   obtain ⟨d1,hd1⟩ : ∃ d1,newNode1 d = d1 := ⟨_,rfl⟩
   have HDd := Lib.hid (show newNodeA d = if d1.node = 0 then (0,d1) else (1024 * d1.node + 64 + 192 * d1.nodes,{ takenA d1 d1.node d1.nodes with nodes := d1.nodes + 1 }) from by unfold newNodeA;rw [hd1])
   rw [hd1] at HA1 HO1
   clear hd1 HN1 HA HO
   have c3 : w1.cell? ⟨ab,5,none⟩ = some (.int .i64 (d1.node : Int)) := (HA1.out.a.cell 5).trans rfl
   by_cases h0 : d1.node = 0
   ·have hq : ((d1.node : Int) == 0) = true := by rw [h0];rfl
    have H0 := Lib.hid h0
    clear h0
    go_wp2_with (fail)
    go_ret
    rw [HDd.out,if_pos H0.out]
    exact ⟨rfl,HA1.out,HK1.out⟩
   ·have hq : ((d1.node : Int) == 0) = false := beq_eq_false_iff_ne.2 (by omega)
    have H0 := Lib.hid h0
    have HSl := Lib.hid (show d1.node <= d1.slabs from by have := HO1.out.va;have := HO1.out.no;have := HO1.out.us;omega)
    have HJl := Lib.hid (show d1.nodes <= 15 from by have := HO1.out.vs;have := HO1.out.ns;omega)
    clear h0
    go_wp2_with (fail)
    refine wp_region_vals [Is (.pointer (some ⟨ab,0,none⟩)),Is (.pointer (some ⟨ab,0,none⟩)),Is (.pointer (some ⟨ab,0,none⟩)),Is (.pointer (some ⟨ab,5,none⟩)),Is (.int .i64 (d1.node : Int)),Is (.pointer (some ⟨ab,0,none⟩)),Is (.pointer (some ⟨ab,0,none⟩)),Is (.pointer (some ⟨ab,6,none⟩)),Is (.int .i64 (d1.nodes : Int)),Is (.tuple #[])]
     (fun _ _ _ => True) (fun L W => KtG w1 ab gb cb d1 v d1.node d1.nodes L W) (by kernel_rfl) (by kernel_rfl) (by kernel_rfl) ?hst ?h0 ⟨?o0,?o1,?o2,?o3,?o4,?o5,?o6,?o7,?o8,?o9,trivial⟩ ?he
    any_goals (intro L vs A W H hf hd K hK)
    case hst => repeat' (first | exact trivial | refine ⟨fun _ _ _ _ _ _ h _ => h,?_⟩)
    case h0 =>
     exact KtG.start w1 ab gb cb d1 v d1.node d1.nodes
    case o0 => have e0 : A.tmps[0]?.getD undef = .pointer (some ⟨ab,0,none⟩) := H.old 0 (by kernel_rfl);go_simp;exact hK _ _ (trivial) rfl (H.glob.keep rfl)
    case o1 => have e0 : A.tmps[0]?.getD undef = .pointer (some ⟨ab,0,none⟩) := H.old 0 (by kernel_rfl);go_simp;exact hK _ _ (trivial) rfl (H.glob.keep rfl)
    case o2 => have e29 := H.iz hd 1 29 rfl rfl rfl (by kernel_rfl);go_simp;exact hK _ _ (trivial) rfl (H.glob.keep rfl)
    case o3 => have e30 := H.iz hd 2 30 rfl rfl rfl (by kernel_rfl);go_simp;exact hK _ _ (trivial) rfl (H.glob.keep rfl)
    case o4 => have e31 := H.iz hd 3 31 rfl rfl rfl (by kernel_rfl);have d0 : W.cell? ⟨ab,5,none⟩ = some (.int .i64 (d1.node : Int)) := (H.glob.kp.cell (p := ⟨ab,5,none⟩) HA1.out.a.lt HA1.out.ne).trans ((HA1.out.a.cell 5).trans rfl);go_simp;exact hK _ _ (trivial) rfl (H.glob.keep rfl)
    case o5 => have e0 : A.tmps[0]?.getD undef = .pointer (some ⟨ab,0,none⟩) := H.old 0 (by kernel_rfl);go_simp;exact hK _ _ (trivial) rfl (H.glob.keep rfl)
    case o6 => have e33 := H.iz hd 5 33 rfl rfl rfl (by kernel_rfl);go_simp;exact hK _ _ (trivial) rfl (H.glob.keep rfl)
    case o7 => have e34 := H.iz hd 6 34 rfl rfl rfl (by kernel_rfl);go_simp;exact hK _ _ (trivial) rfl (H.glob.keep rfl)
    case o8 => have e35 := H.iz hd 7 35 rfl rfl rfl (by kernel_rfl);have d0 : W.cell? ⟨ab,6,none⟩ = some (.int .i64 (d1.nodes : Int)) := (H.glob.kp.cell (p := ⟨ab,6,none⟩) HA1.out.a.lt HA1.out.ne).trans ((HA1.out.a.cell 6).trans rfl);go_simp;exact hK _ _ (trivial) rfl (H.glob.keep rfl)
    case o9 => have e28 := H.iz hd 0 28 rfl rfl rfl (by kernel_rfl);have e32 := H.iz hd 4 32 rfl rfl rfl (by kernel_rfl);have e36 := H.iz hd 8 36 rfl rfl rfl (by kernel_rfl);have HB := Lib.hid (H.glob.n hf);have HL := Lib.hid (ataken_v W ab gb cb d1 v d1.node d1.nodes (HA1.out.below HB.out) HO1.out HSl.out HJl.out);go_simp;refine HL.out.mono ?_;rintro e w' ⟨rfl,hA,hk⟩;go_simp;exact hK _ _ trivial rfl (KtG.call hA (((Keeps.of_below' HB.out).mono (fun _ _ h => h.elim)).trans hk))
    case he =>
     intro vs W hlen hv
     match vs,hlen,hv with
     | [x0_,x1_,x2_,x3_,x4_,x5_,x6_,x7_,x8_,x9_],_,hv =>
     obtain rfl := isv hv 0 rfl rfl;obtain rfl := isv hv 1 rfl rfl;obtain rfl := isv hv 2 rfl rfl;obtain rfl := isv hv 3 rfl rfl;obtain rfl := isv hv 4 rfl rfl;obtain rfl := isv hv 5 rfl rfl;obtain rfl := isv hv 6 rfl rfl;obtain rfl := isv hv 7 rfl rfl;obtain rfl := isv hv 8 rfl rfl;obtain rfl := isv hv 9 rfl rfl
     intro L hall hG
     clear hv hlen
     have HG1 := Lib.hid (hG.y (hall 9 (by decide)))
     have HKt := Lib.hid hG.kp
     clear hG hall
     simp only [fill,if_true]
     simp [Act.put]
     clear c3 hq
     have c4 : W.cell? ⟨ab,6,none⟩ = some (.int .i64 (d1.nodes : Int)) := (HG1.out.a.cell 6).trans rfl
     have f4 : W.frozen? ⟨ab,6,none⟩ = false := HG1.out.a.frozen 6
     have hb4 : (d1.nodes : Int) <= 15 := by have := HJl.out;omega
     obtain ⟨d3,hd3⟩ : ∃ d3 : AD,{ takenA d1 d1.node d1.nodes with nodes := d1.nodes + 1 } = d3 := ⟨_,rfl⟩
     have ha3 : ArW (W.setCell ⟨ab,6,none⟩ (.int .i64 ((d1.nodes : Int) + 1))) ab gb cb d3 v := by rw [<- hd3];exact ⟨HG1.out.a.set 6 _,rfl,HG1.out.b.other 6 _ (fun e => HG1.out.ne e.symm),HG1.out.ne⟩
     have HKs := Lib.hid ((HK1.out.trans (HKt.out.mono (fun i _ e => .inr e))).setCell (p := ⟨ab,6,none⟩) (.inl (.inl rfl)) (.int .i64 ((d1.nodes : Int) + 1)))
     have HD3 := Lib.hid (show d3.node = d1.node /\ d3.nodes = d1.nodes + 1 from by rw [<- hd3];exact ⟨rfl,rfl⟩)
     rw [hd3,if_neg H0.out] at HDd
     have HA3 := Lib.hid ha3
     have Hvl := Lib.hid (show (d3.node : Int) <= 16 from by have := HD3.out.1;have := HSl.out;have := HO1.out.sl;omega)
     have Hvs := Lib.hid (show (d3.nodes : Int) <= 16 /\ (1 : Int) <= (d3.nodes : Int) from by have := HD3.out.2;have := HJl.out;omega)
     clear hd3 ha3
     go_upto_region 8 with (fail)
     obtain ⟨w3,hw3⟩ : ∃ w3,W.setCell ⟨ab,6,none⟩ (.int .i64 ((d1.nodes : Int) + 1)) = w3 := ⟨_,rfl⟩
     rw [hw3] at HA3 HKs ⊢
     clear hw3 c4 f4 hb4 HG1 HKt
     refine wp_region_vals [Is (.pointer (some ⟨ab,0,none⟩)),Is (.pointer (some ⟨ab,0,none⟩)),Is (.pointer (some ⟨ab,5,none⟩)),Is (.int .i64 (d3.node : Int)),Is (.int .i64 (1024 * (d3.node : Int))),Is (.int .i64 (1024 * (d3.node : Int) + 64)),Is (.pointer (some ⟨ab,0,none⟩)),Is (.pointer (some ⟨ab,0,none⟩)),Is (.pointer (some ⟨ab,6,none⟩)),Is (.int .i64 (d3.nodes : Int)),Is (.int .i64 ((d3.nodes : Int) - 1)),Is (.int .i64 (192 * ((d3.nodes : Int) - 1))),Is (.int .i64 (1024 * (d3.node : Int) + 64 + 192 * ((d3.nodes : Int) - 1))),Is (.int .i64 (1024 * (d3.node : Int) + 64 + 192 * ((d3.nodes : Int) - 1)))]
      (fun _ _ _ => True) (fun _ W => Below w3.heap.size w3 W) (by kernel_rfl) (by kernel_rfl) (by kernel_rfl) ?hst ?h0 ⟨?o0,?o1,?o2,?o3,?o4,?o5,?o6,?o7,?o8,?o9,?o10,?o11,?o12,?o13,trivial⟩ ?he
     any_goals (intro L vs A W H hf hd K hK)
     case hst => repeat' (first | exact trivial | refine ⟨fun _ _ _ _ _ _ h _ => h,?_⟩)
     case h0 =>
      exact (Below.refl _ w3).drew
     case o0 => have e0 : A.tmps[0]?.getD undef = .pointer (some ⟨ab,0,none⟩) := H.old 0 (by kernel_rfl);go_simp;exact hK _ _ (trivial) rfl (H.glob)
     case o1 => have e45 := H.iz hd 0 45 rfl rfl rfl (by kernel_rfl);go_simp;exact hK _ _ (trivial) rfl (H.glob)
     case o2 => have e46 := H.iz hd 1 46 rfl rfl rfl (by kernel_rfl);go_simp;exact hK _ _ (trivial) rfl (H.glob)
     case o3 => have e47 := H.iz hd 2 47 rfl rfl rfl (by kernel_rfl);have d0 : W.cell? ⟨ab,5,none⟩ = some (.int .i64 (d3.node : Int)) := (H.glob.cell (p := ⟨ab,5,none⟩) HA3.out.a.lt).trans ((HA3.out.a.cell 5).trans rfl);go_simp;exact hK _ _ (trivial) rfl (H.glob)
     case o4 => have e48 := H.iz hd 3 48 rfl rfl rfl (by kernel_rfl);have hb : IntKind.i64.wrap (1024 * (d3.node : Int)) = (1024 * (d3.node : Int)) := i64_id _ (by have := Hvl.out;have := Hvs.out;omega);go_simp;exact hK _ _ (trivial) rfl (H.glob)
     case o5 => have e49 := H.iz hd 4 49 rfl rfl rfl (by kernel_rfl);have hb : IntKind.i64.wrap (1024 * (d3.node : Int) + 64) = (1024 * (d3.node : Int) + 64) := i64_id _ (by have := Hvl.out;have := Hvs.out;omega);go_simp;exact hK _ _ (trivial) rfl (H.glob)
     case o6 => have e0 : A.tmps[0]?.getD undef = .pointer (some ⟨ab,0,none⟩) := H.old 0 (by kernel_rfl);go_simp;exact hK _ _ (trivial) rfl (H.glob)
     case o7 => have e51 := H.iz hd 6 51 rfl rfl rfl (by kernel_rfl);go_simp;exact hK _ _ (trivial) rfl (H.glob)
     case o8 => have e52 := H.iz hd 7 52 rfl rfl rfl (by kernel_rfl);go_simp;exact hK _ _ (trivial) rfl (H.glob)
     case o9 => have e53 := H.iz hd 8 53 rfl rfl rfl (by kernel_rfl);have d0 : W.cell? ⟨ab,6,none⟩ = some (.int .i64 (d3.nodes : Int)) := (H.glob.cell (p := ⟨ab,6,none⟩) HA3.out.a.lt).trans ((HA3.out.a.cell 6).trans rfl);go_simp;exact hK _ _ (trivial) rfl (H.glob)
     case o10 => have e54 := H.iz hd 9 54 rfl rfl rfl (by kernel_rfl);have hb : IntKind.i64.wrap ((d3.nodes : Int) - 1) = ((d3.nodes : Int) - 1) := i64_id _ (by have := Hvl.out;have := Hvs.out;omega);go_simp;exact hK _ _ (trivial) rfl (H.glob)
     case o11 => have e55 := H.iz hd 10 55 rfl rfl rfl (by kernel_rfl);have hb : IntKind.i64.wrap (192 * ((d3.nodes : Int) - 1)) = (192 * ((d3.nodes : Int) - 1)) := i64_id _ (by have := Hvl.out;have := Hvs.out;omega);go_simp;exact hK _ _ (trivial) rfl (H.glob)
     case o12 => have e50 := H.iz hd 5 50 rfl rfl rfl (by kernel_rfl);have e56 := H.iz hd 11 56 rfl rfl rfl (by kernel_rfl);have hb : IntKind.i64.wrap (1024 * (d3.node : Int) + 64 + 192 * ((d3.nodes : Int) - 1)) = (1024 * (d3.node : Int) + 64 + 192 * ((d3.nodes : Int) - 1)) := i64_id _ (by have := Hvl.out;have := Hvs.out;omega);go_simp;exact hK _ _ (trivial) rfl (H.glob)
     case o13 => have e57 := H.iz hd 12 57 rfl rfl rfl (by kernel_rfl);go_simp;exact hK _ _ (trivial) rfl (H.glob)
     case he =>
      intro vs W hlen hv
      match vs,hlen,hv with
      | [x0_,x1_,x2_,x3_,x4_,x5_,x6_,x7_,x8_,x9_,x10_,x11_,x12_,x13_],_,hv =>
      obtain rfl := isv hv 0 rfl rfl;obtain rfl := isv hv 1 rfl rfl;obtain rfl := isv hv 2 rfl rfl;obtain rfl := isv hv 3 rfl rfl;obtain rfl := isv hv 4 rfl rfl;obtain rfl := isv hv 5 rfl rfl;obtain rfl := isv hv 6 rfl rfl;obtain rfl := isv hv 7 rfl rfl;obtain rfl := isv hv 8 rfl rfl;obtain rfl := isv hv 9 rfl rfl;obtain rfl := isv hv 10 rfl rfl;obtain rfl := isv hv 11 rfl rfl;obtain rfl := isv hv 12 rfl rfl;obtain rfl := isv hv 13 rfl rfl
      intro L hall hG
      clear hv hlen
      have HB3 := Lib.hid hG
      clear hG hall
      simp only [fill,if_true]
      simp [Act.put]
      have HKf := Lib.hid (HKs.out.trans ((Keeps.of_below' HB3.out).mono (fun _ _ h => h.elim)))
      have HAf := Lib.hid (HA3.out.below HB3.out)
      have HRt := Lib.hid (show 1024 * (d3.node : Int) + 64 + 192 * ((d3.nodes : Int) - 1) = ((newNodeA d).1 : Int) from by rw [HDd.out];have := HD3.out.1;have := HD3.out.2;simp only [];omega)
      clear HA3 HKs HB3
      go_wp2_with (fail)
      go_ret
      rw [HRt.out,HDd.out]
      exact ⟨rfl,HAf.out,HKf.out⟩
end Go.Proofs.YtodgfbjjjgohgaaGreat
