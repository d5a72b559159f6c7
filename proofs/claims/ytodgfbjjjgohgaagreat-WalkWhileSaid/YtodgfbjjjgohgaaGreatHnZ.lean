/-
 NewFree: a contract.
-/
import Derived.Test.YtodgfbjjjgohgaaGreatHuZ
namespace Go.Proofs.YtodgfbjjjgohgaaGreat
open Go.RowKit

def DnP (n i0 b : Nat) (v : Value) (l : List Int) (e : Ending) (w w' : World) : Prop :=
 ∃ (m : Bool) (l' : List Int),e = .returned (.bool m) /\ HeapV w' b v l' /\ SameL n l l' /\ (m = true -> Hp n l') /\ (m = false -> i0 < n -> UpOk n l' i0) /\ HStep b v v w w'
theorem DnP.mk {n i0 b i : Nat} {v : Value} {l l' : List Int} {w w' : World} (hv : HeapV w' b v l') (hs : SameL n l l') (hd : DownOk n l' i0 i) (hst : HStep b v v w w') (hk : ∀ k,k < n -> 0 < k -> par k = i -> l'.getD i 0 <= l'.getD k 0) :
  DnP n i0 b v l (.returned (.bool (decide (i0 < i)))) w w' := by
 have h := hd.stop hk
 have hge := hd.ge
 refine ⟨_,l',rfl,hv,hs,fun e => h.1 (by simpa using e),fun e hn => h.2 (by simp at e;omega) hn,hst⟩

theorem less_b (b : Nat) (v : Value) (l : List Int) (i j : Nat) (r : Bool) (hr : decide (l.getD i 0 < l.getD j 0) = r) (hi : i < l.length) (hj : j < l.length) (hn : l.length <= 1000000) :
  ∀ (w : World) (I J : Int),HeapV w b v l -> I = (i : Int) -> J = (j : Int) -> Calls Tryz.prog 120 #[v,.int .i64 I,.int .i64 J] w fun e w' => e = .returned (.bool r) /\ ∃ q,w' = w.drewN q := by
 rintro w _ _ h rfl rfl
 have := less_v b v l i j w h hi hj hn
 rwa [hr] at this
theorem swap_b (b : Nat) (v : Value) (l : List Int) (i j : Nat) (hi : i < l.length) (hj : j < l.length) (hn : l.length <= 1000000) :
  ∀ (w : World) (I J : Int),HeapV w b v l -> I = (i : Int) -> J = (j : Int) -> Calls Tryz.prog 121 #[v,.int .i64 I,.int .i64 J] w fun e w' => e = .returned (.tuple #[]) /\ HeapV w' b v (swpL l i j) /\ HStep b v v w w' := by
 rintro w _ _ h rfl rfl
 exact swap_v b v l i j w h hi hj hn


set_option maxRecDepth 100000 in
set_option maxHeartbeats 4000000 in
theorem down_v (b : Nat) (v : Value) (l : List Int) (n i0 : Nat) (w : World) (h : HeapV w b v l) (hn : l.length <= 1000000) (hu : DownOk n l i0 i0) (hi : i0 <= 1000000) :
  Calls Tryz.prog 80 #[.iface 146 (.pointer (some ⟨b,0,none⟩)),.int .i64 i0,.int .i64 n] w fun e w' => DnP n i0 b v l e w w' := by
 go_enter Tryz.func80,Tryz.ntmps80
 go_wp2_with (fail)
 go_loopw [7] (fun jv wr => ∃ (i' : Nat) (l' : List Int),jv = .int .i64 i' /\ i' <= 1000000 /\ HeapV wr b v l' /\ SameL n l l' /\ DownOk n l' i0 i' /\ HStep b v v w wr) (fun jv _ => (n : Int).toNat - (intOf jv).toNat)
 case atStart => exact ⟨i0,l,rfl,hi,h,.refl _ _,hu,.refl _ _ _⟩
 case round =>
  obtain ⟨i',l',rfl,hib,hv,hs,hd,hst⟩ := hrel
  have hlen := hs.len
  have hnl := hd.nl
  have hc := hv.cell
  have HV := Lib.hid hv
  clear hv
  by_cases h1 : 2 * i' + 1 < n
  ·have HT := Lib.hid hst
   have HSs := Lib.hid hs
   by_cases h2 : 2 * i' + 2 < n
   ·have hp2 : ∀ k,0 < k -> par k = i' -> k = 2 * i' + 1 ∨ k = 2 * i' + 2 := fun k h0 hp => by unfold par at hp;omega
    by_cases lj : l'.getD (2 * i' + 2) 0 < l'.getD (2 * i' + 1) 0
    ·have L21 := Lib.hid (less_b b v l' (2 * i' + 2) (2 * i' + 1) true (by simpa using lj) (by omega) (by omega) (by omega))
     have hmin : ∀ k,k < n -> 0 < k -> par k = i' -> l'.getD (2 * i' + 2) 0 <= l'.getD k 0 := fun k _ h0 hp => by rcases hp2 k h0 hp with rfl | rfl <;> omega
     clear hp2 lj
     have HD := Lib.hid hd
     by_cases hl : l'.getD (2*i'+2) 0 < l'.getD i' 0
     ·have LI := Lib.hid (less_b b v l' (2*i'+2) i' true (by simpa using hl) (by omega) (by omega) (by omega))
      have LS := Lib.hid (swap_b b v l' i' (2*i'+2) (by omega) (by omega) (by omega))
      have HU := Lib.hid (hd.next (j := 2*i'+2) (by omega) (by omega) (by unfold par;omega) hmin hl)
      have HW := Lib.hid (SameL.swp n l' i' (2*i'+2) (by omega) (by omega) (by omega))
      clear hl hmin hd hs hst hu
      go_wp2_with (fail)
      rw [meth_less _ (by decide) wr b v hc]
      go_wp2_with (go_at_call 120;refine (L21.out _ _ _ HV.out (by omega) (by omega)).mono ?_;rintro e w2 ⟨rfl,q,rfl⟩)
      have HVq := Lib.hid (HV.out.drewN q)
      have hcq : (wr.drewN q).cell? ⟨b,0,none⟩ = some v := hc
      rw [meth_less _ (by decide) (wr.drewN q) b v hcq]
      go_wp2_with (go_at_call 120;refine (LI.out _ _ _ HVq.out (by omega) (by omega)).mono ?_;rintro e w2 ⟨rfl,q2,rfl⟩)
      have HV2 := Lib.hid (HV.out.drewN (q+q2))
      have HT2 := Lib.hid (HT.out.drewN (q+q2))
      rw [meth_swap _ (by decide) _ b v HV2.out.cell]
      go_wp2_with (go_at_call 121;refine (LS.out _ _ _ HV2.out (by omega) (by omega)).mono ?_;rintro e w3 ⟨rfl,hv3,hst3⟩;have HV3 := Lib.hid hv3;have HT3 := Lib.hid hst3;clear hv3 hst3)
      go_roundw
      case rel => exact ⟨2*i'+2,_,by go_num,by omega,HV3.out,HSs.out.trans HW.out,HU.out,HT2.out.trans HT3.out⟩
      case measure => simp [intOf];omega
     ·have LI := Lib.hid (less_b b v l' (2*i'+2) i' false (by simpa using hl) (by omega) (by omega) (by omega))
      have HK := Lib.hid (show ∀ k,k < n -> 0 < k -> par k = i' -> l'.getD i' 0 <= l'.getD k 0 from fun k h1 h2 h3 => by have := hmin k h1 h2 h3;omega)
      clear hl hmin hd hs hst hu
      go_wp2_with (fail)
      rw [meth_less _ (by decide) wr b v hc]
      go_wp2_with (go_at_call 120;refine (L21.out _ _ _ HV.out (by omega) (by omega)).mono ?_;rintro e w2 ⟨rfl,q,rfl⟩)
      have HVq := Lib.hid (HV.out.drewN q)
      have hcq : (wr.drewN q).cell? ⟨b,0,none⟩ = some v := hc
      rw [meth_less _ (by decide) (wr.drewN q) b v hcq]
      go_wp2_with (go_at_call 120;refine (LI.out _ _ _ HVq.out (by omega) (by omega)).mono ?_;rintro e w2 ⟨rfl,q2,rfl⟩)
      go_ret
      exact DnP.mk (HV.out.drewN (q+q2)) HSs.out HD.out (HT.out.drewN (q+q2)) HK.out
    ·have L21 := Lib.hid (less_b b v l' (2 * i' + 2) (2 * i' + 1) false (by simpa using lj) (by omega) (by omega) (by omega))
     have hmin : ∀ k,k < n -> 0 < k -> par k = i' -> l'.getD (2 * i' + 1) 0 <= l'.getD k 0 := fun k _ h0 hp => by rcases hp2 k h0 hp with rfl | rfl <;> omega
     clear hp2 lj
     have HD := Lib.hid hd
     by_cases hl : l'.getD (2*i'+1) 0 < l'.getD i' 0
     ·have LI := Lib.hid (less_b b v l' (2*i'+1) i' true (by simpa using hl) (by omega) (by omega) (by omega))
      have LS := Lib.hid (swap_b b v l' i' (2*i'+1) (by omega) (by omega) (by omega))
      have HU := Lib.hid (hd.next (j := 2*i'+1) (by omega) (by omega) (by unfold par;omega) hmin hl)
      have HW := Lib.hid (SameL.swp n l' i' (2*i'+1) (by omega) (by omega) (by omega))
      clear hl hmin hd hs hst hu
      go_wp2_with (fail)
      rw [meth_less _ (by decide) wr b v hc]
      go_wp2_with (go_at_call 120;refine (L21.out _ _ _ HV.out (by omega) (by omega)).mono ?_;rintro e w2 ⟨rfl,q,rfl⟩)
      have HVq := Lib.hid (HV.out.drewN q)
      have hcq : (wr.drewN q).cell? ⟨b,0,none⟩ = some v := hc
      rw [meth_less _ (by decide) (wr.drewN q) b v hcq]
      go_wp2_with (go_at_call 120;refine (LI.out _ _ _ HVq.out (by omega) (by omega)).mono ?_;rintro e w2 ⟨rfl,q2,rfl⟩)
      have HV2 := Lib.hid (HV.out.drewN (q+q2))
      have HT2 := Lib.hid (HT.out.drewN (q+q2))
      rw [meth_swap _ (by decide) _ b v HV2.out.cell]
      go_wp2_with (go_at_call 121;refine (LS.out _ _ _ HV2.out (by omega) (by omega)).mono ?_;rintro e w3 ⟨rfl,hv3,hst3⟩;have HV3 := Lib.hid hv3;have HT3 := Lib.hid hst3;clear hv3 hst3)
      go_roundw
      case rel => exact ⟨2*i'+1,_,by go_num,by omega,HV3.out,HSs.out.trans HW.out,HU.out,HT2.out.trans HT3.out⟩
      case measure => simp [intOf];omega
     ·have LI := Lib.hid (less_b b v l' (2*i'+1) i' false (by simpa using hl) (by omega) (by omega) (by omega))
      have HK := Lib.hid (show ∀ k,k < n -> 0 < k -> par k = i' -> l'.getD i' 0 <= l'.getD k 0 from fun k h1 h2 h3 => by have := hmin k h1 h2 h3;omega)
      clear hl hmin hd hs hst hu
      go_wp2_with (fail)
      rw [meth_less _ (by decide) wr b v hc]
      go_wp2_with (go_at_call 120;refine (L21.out _ _ _ HV.out (by omega) (by omega)).mono ?_;rintro e w2 ⟨rfl,q,rfl⟩)
      have HVq := Lib.hid (HV.out.drewN q)
      have hcq : (wr.drewN q).cell? ⟨b,0,none⟩ = some v := hc
      rw [meth_less _ (by decide) (wr.drewN q) b v hcq]
      go_wp2_with (go_at_call 120;refine (LI.out _ _ _ HVq.out (by omega) (by omega)).mono ?_;rintro e w2 ⟨rfl,q2,rfl⟩)
      go_ret
      exact DnP.mk (HV.out.drewN (q+q2)) HSs.out HD.out (HT.out.drewN (q+q2)) HK.out
   ·have hmin : ∀ k,k < n -> 0 < k -> par k = i' -> l'.getD (2 * i' + 1) 0 <= l'.getD k 0 := fun k hk h0 hp => by
     have : k = 2 * i' + 1 := by unfold par at hp;omega
     subst this;omega
    have HD := Lib.hid hd
    by_cases hl : l'.getD (2*i'+1) 0 < l'.getD i' 0
    ·have LI := Lib.hid (less_b b v l' (2*i'+1) i' true (by simpa using hl) (by omega) (by omega) (by omega))
     have LS := Lib.hid (swap_b b v l' i' (2*i'+1) (by omega) (by omega) (by omega))
     have HU := Lib.hid (hd.next (j := 2*i'+1) (by omega) (by omega) (by unfold par;omega) hmin hl)
     have HW := Lib.hid (SameL.swp n l' i' (2*i'+1) (by omega) (by omega) (by omega))
     clear hl hmin hd hs hst hu
     go_wp2_with (fail)
     have HVq := Lib.hid HV.out
     rw [meth_less _ (by decide) wr b v hc]
     go_wp2_with (go_at_call 120;refine (LI.out _ _ _ HVq.out (by omega) (by omega)).mono ?_;rintro e w2 ⟨rfl,q2,rfl⟩)
     have HV2 := Lib.hid (HV.out.drewN (q2))
     have HT2 := Lib.hid (HT.out.drewN (q2))
     rw [meth_swap _ (by decide) _ b v HV2.out.cell]
     go_wp2_with (go_at_call 121;refine (LS.out _ _ _ HV2.out (by omega) (by omega)).mono ?_;rintro e w3 ⟨rfl,hv3,hst3⟩;have HV3 := Lib.hid hv3;have HT3 := Lib.hid hst3;clear hv3 hst3)
     go_roundw
     case rel => exact ⟨2*i'+1,_,by go_num,by omega,HV3.out,HSs.out.trans HW.out,HU.out,HT2.out.trans HT3.out⟩
     case measure => simp [intOf];omega
    ·have LI := Lib.hid (less_b b v l' (2*i'+1) i' false (by simpa using hl) (by omega) (by omega) (by omega))
     have HK := Lib.hid (show ∀ k,k < n -> 0 < k -> par k = i' -> l'.getD i' 0 <= l'.getD k 0 from fun k h1 h2 h3 => by have := hmin k h1 h2 h3;omega)
     clear hl hmin hd hs hst hu
     go_wp2_with (fail)
     have HVq := Lib.hid HV.out
     rw [meth_less _ (by decide) wr b v hc]
     go_wp2_with (go_at_call 120;refine (LI.out _ _ _ HVq.out (by omega) (by omega)).mono ?_;rintro e w2 ⟨rfl,q2,rfl⟩)
     go_ret
     exact DnP.mk (HV.out.drewN (q2)) HSs.out HD.out (HT.out.drewN (q2)) HK.out
  ·have HD := Lib.hid (DnP.mk HV.out hs hd hst (fun k hk h0 hp => by unfold par at hp;omega))
   have HD2 := Lib.hid hd
   clear hd hs hst hu
   go_wp2_with (fail)
   go_ret
   exact HD.out
end Go.Proofs.YtodgfbjjjgohgaaGreat
namespace Go.Proofs.YtodgfbjjjgohgaaGreat
open Go.RowKit

theorem HeapV.popped {w : World} {b g cap : Nat} {l : List Int} {x : Int} (h : HeapV w b (.slice (some ⟨g,0,none⟩) (l.length + 1) cap) (l ++ [x])) :
  HeapV (w.setCell ⟨b,0,none⟩ (.slice (some ⟨g,0,none⟩) l.length cap)) b (.slice (some ⟨g,0,none⟩) l.length cap) l ∧
  HStep b (.slice (some ⟨g,0,none⟩) (l.length + 1) cap) (.slice (some ⟨g,0,none⟩) l.length cap) w (w.setCell ⟨b,0,none⟩ (.slice (some ⟨g,0,none⟩) l.length cap)) := by
 have hgb : g ≠ b := fun e => h.ne (by subst e;rfl)
 refine ⟨⟨h.blk.set 0 _,ownsRow_setCell_other ?_ (fun e => hgb (by simpa [Value.ownBlock] using e)) _,fun e => hgb (by simpa [Value.ownBlock] using e)⟩,⟨(Keeps.refl _ w).setCell (.inl (.inl rfl)) _,.inl rfl⟩⟩
 obtain ⟨h1,⟨e,_⟩ | ⟨g',cap',cur,e,hb,hg,hn,hc,hs,ht⟩⟩ := h.row
 ·cases e
 ·simp at e
  obtain ⟨rfl,rfl⟩ := e
  refine ⟨by simp,.inr ⟨g,cap,cur,rfl,hb,hg,by simp at hn;omega,hc,hs,?_⟩⟩
  have : List.take (l.length * 1) (List.take ((l ++ [x]).length * 1) cur.toList) = l.map (Value.int .u64) := by rw [ht];simp
  rwa [List.take_take,show min (l.length * 1) ((l ++ [x]).length * 1) = l.length * 1 by simp] at this

set_option maxRecDepth 100000 in
set_option maxHeartbeats 2000000 in
theorem pop_v (b : Nat) (v : Value) (l : List Int) (x : Int) (w : World) (h : HeapV w b v (l ++ [x])) (hn : l.length <= 1000000) :
  Calls Tryz.prog 122 #[.pointer (some ⟨b,0,none⟩)] w fun e w' => e = .returned (.iface 39 (.int .u64 x)) /\ ∃ v',HeapV w' b v' l /\ HStep b v v' w w' := by
 obtain ⟨g,cap,rfl,_,hlc,hcm,_,hc,hf⟩ := h.pos (by simp)
 rw [show (l ++ [x]).length = l.length + 1 by simp] at *
 have H := Lib.hid h.popped
 have hcell := h.cell
 have hfb := h.blk.frozen 0
 have c1 := hc l.length (by omega)
 rw [show (l ++ [x]).getD l.length 0 = x by simp] at c1
 have q1 : IntKind.i64.wrap (((l.length + 1 : Nat) : Int) - 1) = (l.length : Int) := by rw [show ((l.length + 1 : Nat) : Int) - 1 = (l.length : Int) by omega];exact IntWalk.i64_in _ (by omega)
 have b1 : ((l.length : Nat) : Int) < ((l.length + 1 : Nat) : Int) := by omega
 have b2 : (l.length : Int) <= (cap : Int) := by omega
 have b4 : ((l.length : Int)).toNat = l.length := by omega
 clear h hc hf
 go_enter Tryz.func122,Tryz.ntmps122
 go_wp2_with (fail)
 go_ret
 exact ⟨rfl,_,H.out.1,H.out.2⟩
end Go.Proofs.YtodgfbjjjgohgaaGreat
namespace Go.Proofs.YtodgfbjjjgohgaaGreat
open Go.RowKit

def PutP (b : Nat) (v : Value) (l : List Int) (x : Int) (w w' : World) : Prop := ∃ v' l',HeapV w' b v' l' /\ Hp l'.length l' /\ l'.Perm (x :: l) /\ HStep b v v' w w'
def PopP (b : Nat) (v : Value) (l : List Int) (x : Int) (w w' : World) : Prop := ∃ v' l',HeapV w' b v' l' /\ Hp l'.length l' /\ l.Perm (x :: l') /\ HStep b v v' w w'

set_option maxRecDepth 100000 in
set_option maxHeartbeats 2000000 in
theorem hpush_v (b : Nat) (v : Value) (l : List Int) (x : Int) (w : World) (h : HeapV w b v l) (hp : Hp l.length l) (hn : l.length <= 900000) :
  Calls Tryz.prog 76 #[.iface 146 (.pointer (some ⟨b,0,none⟩)),.iface 39 (.int .u64 x)] w fun e w' => e = .returned (.tuple #[]) /\ PutP b v l x w w' := by
 have HPush := Lib.hid (push_v b v l x w h (by omega))
 have HU := Lib.hid (hp.pushed x)
 clear h hp
 go_enter Tryz.func76,Tryz.ntmps76
 go_wp2_with (go_at_call 123;refine HPush.out.mono ?_;rintro e w1 ⟨rfl,v1,hv1,hst1⟩;have HV1 := Lib.hid hv1;have HT1 := Lib.hid hst1;clear hv1 hst1)
 obtain ⟨a1,c1,rfl⟩ := HV1.out.slice
 rw [meth_len _ (by decide) w1 b _ HV1.out.cell]
 have q1 : IntKind.i64.wrap (((l ++ [x]).length : Int) - 1) = (l.length : Int) := by rw [show ((l ++ [x]).length : Int) - 1 = (l.length : Int) by simp];exact IntWalk.i64_in _ (by omega)
 go_wp2_with (go_at_call 119;refine (len_v _ _ _ ⟨_,_,rfl⟩).mono ?_;rintro e w2 ⟨rfl,rfl⟩)
 refine (up_v b _ _ _ _ w1 HV1.out (by simp;omega) HU.out).mono ?_
 rintro e w3 ⟨rfl,l3,hv3,hs3,hp3,hst3⟩
 have HR := Lib.hid (show PutP b v l x w w3 from ⟨_,l3,hv3,by rw [hs3.len];simpa using hp3,hs3.perm.trans (List.perm_append_singleton _ _),HT1.out.trans hst3⟩)
 clear hv3 hs3 hp3 hst3
 go_wp2_with (fail)
 go_end0
 exact ⟨rfl,HR.out⟩

theorem pop_done {n b i : Nat} {v : Value} {l l2 : List Int} {w w1 w2 : World} (hl : l.length = n + 1) (hi : i < l.length) (hs : SameL n (swpL l i n) l2) (hp : Hp n l2) (hst : HStep b v v w w1)
  (hpop : ∃ v',HeapV w2 b v' (l2.take n) /\ HStep b v v' w1 w2) : PopP b v l (l.getD i 0) w w2 := by
 obtain ⟨v',hv,ht⟩ := hpop
 have hlen : l2.length = n + 1 := by rw [hs.len,swpL_len,hl]
 have h1 := last_split l2 n hlen
 have h2 : l2.getD n 0 = l.getD i 0 := by rw [hs.rest n (Nat.le_refl _),swpL_get _ _ _ _ hi (by omega),if_pos rfl]
 rw [h2] at h1
 refine ⟨v',l2.take n,hv,hp.take (by omega),?_,hst.trans ht⟩
 have h3 : l2.Perm l := hs.perm.trans (swpL_perm _ _ _ hi (by omega))
 rw [h1] at h3
 exact h3.symm.trans (List.perm_append_singleton _ _)
theorem pop_done_v {n b i : Nat} {v : Value} {l l2 : List Int} {w1 : World} (hl : l.length = n + 1) (hn : n <= 1000000) (hi : i < l.length) (hs : SameL n (swpL l i n) l2) (hv : HeapV w1 b v l2) :
  Calls Tryz.prog 122 #[.pointer (some ⟨b,0,none⟩)] w1 fun e w' => e = .returned (.iface 39 (.int .u64 (l.getD i 0))) /\ ∃ v',HeapV w' b v' (l2.take n) /\ HStep b v v' w1 w' := by
 have hlen : l2.length = n + 1 := by rw [hs.len,swpL_len,hl]
 have h1 := last_split l2 n hlen
 have h2 : l2.getD n 0 = l.getD i 0 := by rw [hs.rest n (Nat.le_refl _),swpL_get _ _ _ _ hi (by omega),if_pos rfl]
 rw [h2] at h1
 rw [h1] at hv
 exact pop_v b v _ _ w1 hv (by simp;omega)

end Go.Proofs.YtodgfbjjjgohgaaGreat
namespace Go.Proofs.YtodgfbjjjgohgaaGreat
open Go.RowKit

theorem swpL_id (l : List Int) (i : Nat) (hi : i < l.length) : swpL l i i = l := by
 unfold swpL
 apply List.ext_getElem?
 intro k
 simp only [List.getElem?_set,List.length_set]
 by_cases h : i = k
 ·subst h;simp [hi]
 ·simp [h]

set_option maxRecDepth 100000 in
set_option maxHeartbeats 2000000 in
theorem hremove_v (b : Nat) (v : Value) (l : List Int) (n i : Nat) (w : World) (h : HeapV w b v l) (hp : Hp l.length l) (hl : l.length = n + 1) (hn : n <= 900000) (hi : i <= n) :
  Calls Tryz.prog 68 #[.iface 146 (.pointer (some ⟨b,0,none⟩)),.int .i64 i] w fun e w' => e = .returned (.iface 39 (.int .u64 (l.getD i 0))) /\ PopP b v l (l.getD i 0) w w' := by
 obtain ⟨a1,c1,rfl⟩ := h.slice
 have H := Lib.hid h
 have HD := Lib.hid (show DownOk n (swpL l i n) i i from by have := hp.swapped i (by omega);rwa [hl,Nat.add_sub_cancel] at this)
 have HP := Lib.hid (show Hp n l from hp.less (by omega))
 have HL := Lib.hid hl
 have LS := Lib.hid (swap_b b _ l i n (by omega) (by omega) (by omega) w i n h rfl rfl)
 have q1 : IntKind.i64.wrap ((l.length : Int) - 1) = (n : Int) := by rw [hl,show ((n + 1 : Nat) : Int) - 1 = (n : Int) by omega];exact IntWalk.i64_in _ (by omega)
 clear h hp hl
 by_cases hin : n = i
 ·subst hin
  go_enter Tryz.func68,Tryz.ntmps68
  go_wp2_with (fail)
  rw [meth_len _ (by decide) w b _ H.out.cell]
  go_wp2_with (go_at_call 119;refine (len_v _ _ _ ⟨_,_,rfl⟩).mono ?_;rintro e w2 ⟨rfl,rfl⟩)
  have HSS := Lib.hid (show SameL n (swpL l n n) l from by rw [swpL_id l n (by have := HL.out;omega)];exact .refl _ _)
  go_wp2_with (go_at_call 122;refine (pop_done_v HL.out (by omega) (by have := HL.out;omega) HSS.out H.out).mono ?_;rintro e w4 ⟨rfl,h4⟩;have HR := Lib.hid (pop_done HL.out (by have := HL.out;omega) HSS.out HP.out (HStep.refl _ _ _) h4);clear h4)
  go_ret
  exact ⟨rfl,HR.out⟩
 ·have hin2 : ¬ ((n : Int) = (i : Int)) := by omega
  go_enter Tryz.func68,Tryz.ntmps68
  go_wp2_with (fail)
  rw [meth_len _ (by decide) w b _ H.out.cell]
  go_wp2_with (go_at_call 119;refine (len_v _ _ _ ⟨_,_,rfl⟩).mono ?_;rintro e w2 ⟨rfl,rfl⟩)
  rw [meth_swap _ (by decide) w b _ H.out.cell]
  go_wp2_with (go_at_call 121;refine LS.out.mono ?_;rintro e w2 ⟨rfl,hv2,hst2⟩;have HV2 := Lib.hid hv2;have HT2 := Lib.hid hst2;clear hv2 hst2)
  refine (down_v b _ _ n i w2 HV2.out (by rw [swpL_len,HL.out];omega) HD.out (by omega)).mono ?_
  rintro e w3 ⟨m,l3,rfl,hv3,hs3,hm1,hm2,hst3⟩
  have HV3 := Lib.hid hv3
  have HS3 := Lib.hid hs3
  have HT3 := Lib.hid hst3
  cases m
  ·have HU := Lib.hid (hm2 rfl (by omega))
   clear hv3 hs3 hm1 hm2 hst3
   go_wp2_with (go_at_call 81;refine (up_v b _ _ n i w3 HV3.out (by rw [HS3.out.len,swpL_len,HL.out];omega) HU.out).mono ?_;rintro e w5 ⟨rfl,l5,hv5,hs5,hp5,hst5⟩;have HV5 := Lib.hid hv5;have HS5 := Lib.hid (HS3.out.trans hs5);have HP5 := Lib.hid hp5;have HT5 := Lib.hid hst5;clear hv5 hs5 hp5 hst5)
   go_wp2_with (go_at_call 122;refine (pop_done_v HL.out (by omega) (by have := HL.out;omega) HS5.out HV5.out).mono ?_;rintro e w4 ⟨rfl,h4⟩;have HR := Lib.hid (pop_done HL.out (by have := HL.out;omega) HS5.out HP5.out ((HT2.out.trans HT3.out).trans HT5.out) h4);clear h4)
   go_ret
   exact ⟨rfl,HR.out⟩
  ·have HP3 := Lib.hid (hm1 rfl)
   clear hv3 hs3 hm1 hm2 hst3
   go_wp2_with (go_at_call 122;refine (pop_done_v HL.out (by omega) (by have := HL.out;omega) HS3.out HV3.out).mono ?_;rintro e w4 ⟨rfl,h4⟩;have HR := Lib.hid (pop_done HL.out (by have := HL.out;omega) HS3.out HP3.out (HT2.out.trans HT3.out) h4);clear h4)
   go_ret
   exact ⟨rfl,HR.out⟩
end Go.Proofs.YtodgfbjjjgohgaaGreat
namespace Go.Proofs.YtodgfbjjjgohgaaGreat
open Go.RowKit

def PlaceR (l : List Int) (a : Int) (r : Int) : Prop := (r = -1 /\ a ∉ l) ∨ ∃ i : Nat,r = i /\ i < l.length /\ l.getD i 0 = a
def PlaceP (l : List Int) (a : Int) (e : Ending) : Prop := ∃ r,e = .returned (.int .i64 r) /\ PlaceR l a r

theorem eq_v (x a : Int) (B : Nat) (w : World) (hc : w.cell? ⟨B,0,none⟩ = some (.int .u64 a)) : Calls Tryz.prog 79 #[.int .u64 x,.pointer (some ⟨B,0,none⟩)] w fun e w' => e = .returned (.bool (x == a)) /\ ∃ q,w' = w.drewN q := by
 go_enter Tryz.func79,Tryz.ntmps79
 go_wp2_with (fail)
 go_ret
 exact ⟨rfl,0,rfl⟩

set_option maxRecDepth 100000 in
set_option maxHeartbeats 1000000 in
theorem index_v (b B : Nat) (v : Value) (l : List Int) (a : Int) (w : World) (h : HeapV w b v l) (hn : l.length <= 1000000) (hB : w.cell? ⟨B,0,none⟩ = some (.int .u64 a)) :
  Calls Tryz.prog 78 #[v,.func (.func 79) #[] #[.pointer (some ⟨B,0,none⟩)]] w fun e w' => PlaceP l a e /\ ∃ q,w' = w.drewN q := by
 obtain ⟨a1,c1,rfl⟩ := h.slice
 have H := Lib.hid h
 clear h
 go_enter Tryz.func78,Tryz.ntmps78
 go_wp2_with (fail)
 go_loopw [8] (fun jv wr => ∃ k q : Nat,jv = .int .i64 k /\ k <= l.length /\ wr = w.drewN q /\ ∀ j,j < k -> l.getD j 0 ≠ a) (fun jv _ => l.length - (intOf jv).toNat)
 case atStart => exact ⟨0,0,rfl,Nat.zero_le _,rfl,fun j hj => absurd hj (Nat.not_lt_zero _)⟩
 case round =>
  obtain ⟨k,q,rfl,hk,rfl,hno⟩ := hrel
  have HN := Lib.hid hno
  clear hno
  by_cases hlt : k < l.length
  ·obtain ⟨g,cap,e,_,_,_,_,hc,_⟩ := (H.out.drewN q).pos (by omega)
   simp at e
   obtain ⟨rfl,rfl⟩ := e
   have c2 := hc k hlt
   obtain ⟨x,hx⟩ : ∃ x,l.getD k 0 = x := ⟨_,rfl⟩
   rw [hx] at c2
   have c3 : w.cell? ⟨g,k,none⟩ = some (.int .u64 x) := c2
   have HX := Lib.hid hx
   have b1 : (k : Int) < (l.length : Int) := by omega
   have b3 : ((k : Int)).toNat = k := by omega
   have HQ := Lib.hid (eq_v x a B (w.drewN q) hB)
   clear hc hx
   by_cases hxa : x = a
   ·rw [show (x == a) = true by simpa using hxa] at HQ
    have HXA := Lib.hid hxa
    clear hxa
    go_wp2_with (go_at_call 79;refine HQ.out.mono ?_;rintro e w2 ⟨rfl,q2,rfl⟩)
    go_ret
    exact ⟨⟨k,rfl,.inr ⟨k,rfl,hlt,HX.out.trans HXA.out⟩⟩,_,rfl⟩
   ·rw [show (x == a) = false by simpa using hxa] at HQ
    have HXA := Lib.hid hxa
    clear hxa
    go_wp2_with (go_at_call 79;refine HQ.out.mono ?_;rintro e w2 ⟨rfl,q2,rfl⟩)
    go_roundw
    case rel =>
     refine ⟨k + 1,_,by go_num,by omega,rfl,fun j hj => ?_⟩
     by_cases e : j = k
     ·subst e;rw [HX.out];exact HXA.out
     ·exact HN.out j (by omega)
    case measure => simp [intOf];omega
  ·have hk2 : k = l.length := by omega
   subst hk2
   go_wp2_with (fail)
   go_ret
   refine ⟨⟨-1,rfl,.inl ⟨rfl,fun hm => ?_⟩⟩,q,rfl⟩
   obtain ⟨i,hi,e⟩ := List.getElem_of_mem hm
   exact HN.out i hi (by simp [hi,e])
end Go.Proofs.YtodgfbjjjgohgaaGreat
namespace Go.Proofs.YtodgfbjjjgohgaaGreat
open Go.RowKit

theorem HeapV.keep {w w' : World} {b : Nat} {v : Value} {l : List Int} (h : HeapV w b v l) (hB : Below w.heap.size w w') : HeapV w' b v l :=
 ⟨h.blk.kept (Keeps.of_below' hB) id,by
  refine ⟨h.row.1,?_⟩
  rcases h.row.2 with h1 | ⟨g,cap,cur,h1,h2,h3,h4⟩
  ·exact .inl h1
  ·exact .inr ⟨g,cap,cur,h1,h2,by rw [hB.block g (Array.getElem?_eq_some_iff.1 h3).1];exact h3,h4⟩,h.ne⟩
theorem belowN {B : Nat} {a w : World} (h : Below B a w) (n : Nat) : Below B a (w.drewN n) := ⟨h.os,h.tape,h.output,h.size,h.block⟩
theorem HStep.of_below {b : Nat} {v : Value} {w w' : World} (hB : Below w.heap.size w w') : HStep b v v w w' := ⟨(Keeps.of_below' hB).mono (fun _ _ h => h.elim),.inl rfl⟩

set_option maxRecDepth 100000 in
set_option maxHeartbeats 1000000 in
theorem place_v (b : Nat) (v : Value) (l : List Int) (a : Int) (w : World) (h : HeapV w b v l) (hn : l.length <= 1000000) :
  Calls Tryz.prog 67 #[.pointer (some ⟨b,0,none⟩),.int .u64 a] w fun e w' => PlaceP l a e /\ Below w.heap.size w w' := by
 have HI := Lib.hid (index_v b w.heap.size v l a (w.alloc (.cells #[.int .u64 a] 39)) (h.keep ((Below.refl _ w).alloc (Nat.le_refl _) _)) hn (by simp))
 have hc := h.cell
 have hc2 : (w.alloc (.cells #[.int .u64 a] 39)).cell? ⟨b,0,none⟩ = some v := (h.keep ((Below.refl _ w).alloc (Nat.le_refl _) _)).cell
 clear h
 go_enter Tryz.func67,Tryz.ntmps67
 go_wp2_with (go_at_call 78;refine HI.out.mono ?_;rintro e w2 ⟨⟨r,rfl,hr⟩,q,rfl⟩;have HR := Lib.hid hr;clear hr)
 go_ret
 exact ⟨⟨_,rfl,HR.out⟩,belowN ((Below.refl _ w).alloc (Nat.le_refl _) _) q⟩

set_option maxHeartbeats 1000000 in
theorem has_v (b : Nat) (v : Value) (l : List Int) (a : Int) (w : World) (h : HeapV w b v l) (hn : l.length <= 1000000) :
  Calls Tryz.prog 75 #[.pointer (some ⟨b,0,none⟩),.int .u64 a] w fun e w' => e = .returned (.bool (decide (a ∈ l))) /\ Below w.heap.size w w' := by
 have HP := Lib.hid (place_v b v l a w h hn)
 clear h
 go_enter Tryz.func75,Tryz.ntmps75
 go_wp2_with (go_at_call 67;refine HP.out.mono ?_;rintro e w2 ⟨⟨r,rfl,hr⟩,hB⟩;have HR := Lib.hid hr;have HB := Lib.hid hB;clear hr hB)
 go_ret
 refine ⟨?_,HB.out⟩
 rcases HR.out with ⟨rfl,hm⟩ | ⟨i,rfl,hi,e⟩
 ·simp [hm]
 ·have : a ∈ l := by rw [<- e];simp [hi]
  simp [this]

structure SetV (w : World) (b : Nat) (v : Value) (l : List Int) : Prop where
 hv : HeapV w b v l
 hp : Hp l.length l
 nd : l.Nodup
def AddP (b : Nat) (v : Value) (l : List Int) (x : Int) (w w' : World) : Prop := ∃ v' l',SetV w' b v' l' /\ l'.Perm (if x ∈ l then l else x :: l) /\ HStep b v v' w w'

set_option maxRecDepth 100000 in
set_option maxHeartbeats 1000000 in
theorem put_v (b : Nat) (v : Value) (l : List Int) (a : Int) (w : World) (h : SetV w b v l) (hn : l.length <= 900000) (ha : a ≠ 0) :
  Calls Tryz.prog 62 #[.pointer (some ⟨b,0,none⟩),.int .u64 a] w fun e w' => e = .returned (.int .i64 0) /\ AddP b v l a w w' := by
 have HP := Lib.hid (has_v b v l a w h.hv (by omega))
 have H := Lib.hid h
 clear h
 by_cases hm : a ∈ l
 ·rw [decide_eq_true hm] at HP
  have HM := Lib.hid hm
  clear hm
  go_enter Tryz.func62,Tryz.ntmps62
  go_wp2_with (go_at_call 75;refine HP.out.mono ?_;rintro e w2 ⟨rfl,hB⟩;have HB := Lib.hid hB;clear hB)
  go_ret
  refine ⟨rfl,v,l,⟨H.out.hv.keep HB.out,H.out.hp,H.out.nd⟩,by rw [if_pos HM.out],.of_below HB.out⟩
 ·rw [decide_eq_false hm] at HP
  have HM := Lib.hid hm
  clear hm
  go_enter Tryz.func62,Tryz.ntmps62
  go_wp2_with (go_at_call 75;refine HP.out.mono ?_;rintro e w2 ⟨rfl,hB⟩;have HB := Lib.hid hB;clear hB)
  refine (hpush_v b v l a w2 (H.out.hv.keep HB.out) H.out.hp hn).mono ?_
  rintro e w3 ⟨rfl,h3⟩
  have HR := Lib.hid h3
  clear h3
  go_wp2_with (fail)
  go_ret
  obtain ⟨v',l',hv,hp,hpm,hst⟩ := HR.out
  exact ⟨rfl,v',l',⟨hv,hp,hpm.nodup_iff.2 (List.nodup_cons.2 ⟨HM.out,H.out.nd⟩)⟩,by rw [if_neg HM.out];exact hpm,(HStep.of_below HB.out).trans hst⟩

def GetP (b : Nat) (v : Value) (l : List Int) (x : Int) (w w' : World) : Prop := ∃ v' l',SetV w' b v' l' /\ l.Perm (x :: l') /\ HStep b v v' w w'
theorem GetP.of {b : Nat} {v : Value} {l : List Int} {x : Int} {w w' : World} (hn : l.Nodup) (h : PopP b v l x w w') : GetP b v l x w w' := by
 obtain ⟨v',l',hv,hp,hpm,hst⟩ := h
 exact ⟨v',l',⟨hv,hp,(List.nodup_cons.1 (hpm.nodup_iff.1 hn)).2⟩,hpm,hst⟩

theorem place_in (b : Nat) (v : Value) (l : List Int) (a : Int) (w : World) (h : HeapV w b v l) (hn : l.length <= 1000000) (hm : a ∈ l) :
  Calls Tryz.prog 67 #[.pointer (some ⟨b,0,none⟩),.int .u64 a] w fun e w' => (∃ i : Nat,e = .returned (.int .i64 i) /\ i < l.length /\ l.getD i 0 = a) /\ Below w.heap.size w w' :=
 (place_v b v l a w h hn).mono fun _ _ ⟨⟨r,he,hr⟩,hB⟩ => ⟨by
  rcases hr with ⟨_,hr⟩ | ⟨i,rfl,hi,e⟩
  ·exact absurd hm hr
  ·exact ⟨i,he,hi,e⟩,hB⟩
theorem place_out (b : Nat) (v : Value) (l : List Int) (a : Int) (w : World) (h : HeapV w b v l) (hn : l.length <= 1000000) (hm : a ∉ l) :
  Calls Tryz.prog 67 #[.pointer (some ⟨b,0,none⟩),.int .u64 a] w fun e w' => e = .returned (.int .i64 (-1)) /\ Below w.heap.size w w' :=
 (place_v b v l a w h hn).mono fun _ _ ⟨⟨r,he,hr⟩,hB⟩ => ⟨by
  rcases hr with ⟨rfl,_⟩ | ⟨i,rfl,hi,e⟩
  ·exact he
  ·exact absurd (by rw [<- e];simp [hi]) hm,hB⟩

set_option maxRecDepth 100000 in
set_option maxHeartbeats 1000000 in
theorem drop_v (b : Nat) (v : Value) (l : List Int) (a : Int) (w : World) (h : SetV w b v l) (hn : l.length <= 900000) :
  Calls Tryz.prog 47 #[.pointer (some ⟨b,0,none⟩),.int .u64 a] w fun e w' => e = .returned (.bool (decide (a ∈ l))) /\ ∃ v' l',SetV w' b v' l' /\ l'.Perm (l.erase a) /\ HStep b v v' w w' := by
 have H := Lib.hid h
 by_cases hm : a ∈ l
 ·have HP := Lib.hid (place_in b v l a w h.hv (by omega) hm)
  have HM := Lib.hid hm
  rw [decide_eq_true hm]
  clear h hm
  go_enter Tryz.func47,Tryz.ntmps47
  go_wp2_with (fail)
  refine HP.out.mono ?_
  rintro e w2 ⟨⟨i,rfl,hi,hx⟩,hB⟩
  have HX := Lib.hid hx
  have HI := Lib.hid hi
  have HB := Lib.hid hB
  have hi0 : ¬ (i : Int) < 0 := by omega
  clear hi hx hB
  go_wp2_with (fail)
  refine (hremove_v b v l (l.length - 1) i w2 (H.out.hv.keep HB.out) H.out.hp (by have := HI.out;omega) (by omega) (by have := HI.out;omega)).mono ?_
  rintro e w3 ⟨rfl,h3⟩
  rw [HX.out] at h3
  have HR := Lib.hid (GetP.of H.out.nd h3)
  clear h3
  go_wp2_with (fail)
  go_ret
  obtain ⟨v',l',hv,hpm,hst⟩ := HR.out
  exact ⟨rfl,v',l',hv,((List.perm_cons_erase HM.out).symm.trans hpm).cons_inv.symm,(HStep.of_below HB.out).trans hst⟩
 ·have HP := Lib.hid (place_out b v l a w h.hv (by omega) hm)
  have HM := Lib.hid hm
  rw [decide_eq_false hm]
  clear h hm
  go_enter Tryz.func47,Tryz.ntmps47
  go_wp2_with (go_at_call 67;refine HP.out.mono ?_;rintro e w2 ⟨rfl,hB⟩;have HB := Lib.hid hB;clear hB)
  go_ret
  exact ⟨rfl,v,l,⟨H.out.hv.keep HB.out,H.out.hp,H.out.nd⟩,by rw [List.erase_of_not_mem HM.out],.of_below HB.out⟩
end Go.Proofs.YtodgfbjjjgohgaaGreat
namespace Go.Proofs.YtodgfbjjjgohgaaGreat
open Go.RowKit

theorem put_zero (b : Nat) (w : World) :
  Calls Tryz.prog 62 #[.pointer (some ⟨b,0,none⟩),.int .u64 0] w fun e w' => e = .returned (.int .i64 2) /\ w = w' := by
 go_enter Tryz.func62,Tryz.ntmps62
 go_wp2_with (fail)
 go_ret
 exact ⟨rfl,rfl⟩

def ReadL (w : World) (a : Option Addr) (xs : List Int) : Prop := xs = [] ∨ ∃ g o,a = some ⟨g,o,none⟩ /\ g < w.heap.size /\ ∀ j,j < xs.length -> w.cell? ⟨g,o + j,none⟩ = some (.int .u64 (xs.getD j 0))
def NewPb (xs : List Int) (e : Ending) (w w' : World) : Prop := ∃ v l,e = .returned (.pointer (some ⟨w.heap.size,0,none⟩)) /\ SetV w' w.heap.size v l /\ (∀ x,x ∈ l ↔ x ∈ xs /\ x ≠ 0) /\ l.length <= xs.length /\ (∀ g,v.ownBlock = some g -> w.heap.size <= g) /\ Below w.heap.size w w'

theorem HStep.own {b : Nat} {v v' : Value} {w w' : World} {B : Nat} (h : HStep b v v' w w') (hv : ∀ g,v.ownBlock = some g -> B <= g) (hB : B <= w.heap.size) : ∀ g,v'.ownBlock = some g -> B <= g := by
 rcases h.2 with e | e
 ·rw [e];exact hv
 ·exact fun g hg => by have := e g hg;omega
theorem HStep.below {b : Nat} {v v' : Value} {w0 w w' : World} {B : Nat} (h : HStep b v v' w w') (hv : ∀ g,v.ownBlock = some g -> B <= g) (hb : B <= b) (hB : B <= w.heap.size) (k : Below B w0 w) : Below B w0 w' := by
 refine k.trans ⟨h.1.os,h.1.tape,h.1.output,h.1.size,fun i hi => h.1.block i (by omega) ?_⟩
 rintro (e | e)
 ·omega
 ·have := hv i e;omega

set_option maxRecDepth 100000 in
set_option maxHeartbeats 2000000 in
theorem newfree_v (a : Option Addr) (c : Nat) (xs : List Int) (w : World) (h : ReadL w a xs) (hn : xs.length <= 100000) :
  Calls Tryz.prog 38 #[.slice a xs.length c] w fun e w' => NewPb xs e w w' := by
 have H := Lib.hid h
 clear h
 go_enter Tryz.func38,Tryz.ntmps38
 go_wp2_with (fail)
 go_loopw [10] (fun jv wr => ∃ (k : Nat) (v : Value) (l : List Int),jv = .int .i64 k /\ k <= xs.length /\ SetV wr w.heap.size v l /\ (∀ x,x ∈ l ↔ x ∈ xs.take k /\ x ≠ 0) /\ l.length <= k /\ (∀ g,v.ownBlock = some g -> w.heap.size <= g) /\ Below w.heap.size w wr) (fun jv _ => xs.length - (intOf jv).toNat)
 case atStart =>
  refine ⟨0,.slice none 0 0,[],rfl,Nat.zero_le _,⟨⟨?_,?_,fun e => by simp [Value.ownBlock] at e⟩,fun k hk => absurd hk (Nat.not_lt_zero _),List.nodup_nil⟩,by simp,Nat.le_refl _,fun g e => by simp [Value.ownBlock] at e,(Below.refl _ w).alloc (Nat.le_refl _) _⟩
  ·exact Blk.new w #[.slice none 0 0] 142
  ·exact World.ownsRow_nil _ _ _ _
 case round =>
  obtain ⟨k,v,l,rfl,hk,hs,hm,hlk,hown,hB⟩ := hrel
  have HS := Lib.hid hs
  have HM := Lib.hid hm
  have HO := Lib.hid hown
  have HB := Lib.hid hB
  have hsz := hB.size
  clear hs hm hown
  by_cases hlt : k < xs.length
  ·rcases H.out with e | ⟨g,o,rfl,hg,hc⟩
   ·subst e;simp at hlt
   obtain ⟨x,hx⟩ : ∃ x,xs.getD k 0 = x := ⟨_,rfl⟩
   have c1 := (HB.out.cell (p := ⟨g,o + k,none⟩) hg).trans (hc k hlt)
   rw [hx] at c1
   have HT := Lib.hid (show xs.take (k + 1) = xs.take k ++ [x] from by rw [<- hx,List.take_succ_eq_append_getElem hlt];simp [hlt])
   have b1 : (k : Int) < (xs.length : Int) := by omega
   have b3 : ((k : Int)).toNat = k := by omega
   clear hc hx hB
   by_cases hx0 : x = 0
   ·subst hx0
    go_wp2_with (fail)
    refine (put_zero _ _).mono ?_
    rintro e w2 ⟨rfl,rfl⟩
    go_wp2_with (fail)
    go_roundw
    case rel => exact ⟨k + 1,v,l,by go_num,by omega,HS.out,fun y => by rw [HM.out,HT.out,List.mem_append];simp;intro h1 h2;exact absurd h2 h1,by omega,HO.out,HB.out⟩
    case measure => simp [intOf];omega
   ·have HP := Lib.hid (put_v w.heap.size v l x wr HS.out (by omega) hx0)
    have HX := Lib.hid hx0
    clear hx0
    go_wp2_with (fail)
    refine HP.out.mono ?_
    rintro e w2 ⟨rfl,v2,l2,hs2,hp2,hst2⟩
    have HR := Lib.hid (show (∀ y,y ∈ l2 ↔ y ∈ xs.take (k + 1) /\ y ≠ 0) /\ l2.length <= k + 1 from by
     constructor
     ·intro y
      rw [hp2.mem_iff,HT.out,List.mem_append]
      by_cases hxl : x ∈ l
      ·rw [if_pos hxl,HM.out]
       have := (HM.out x).1 hxl
       constructor
       ·rintro ⟨h1,h2⟩;exact ⟨.inl h1,h2⟩
       ·rintro ⟨h1 | h1,h2⟩
        ·exact ⟨h1,h2⟩
        ·rw [List.mem_singleton] at h1;subst h1;exact this
      ·rw [if_neg hxl,List.mem_cons,HM.out]
       constructor
       ·rintro (rfl | ⟨h1,h2⟩)
        ·exact ⟨.inr (by simp),HX.out⟩
        ·exact ⟨.inl h1,h2⟩
       ·rintro ⟨h1 | h1,h2⟩
        ·exact .inr ⟨h1,h2⟩
        ·exact .inl (by simpa using h1)
     ·rw [hp2.length_eq];split <;> (try simp only [List.length_cons]) <;> omega)
    have HS2 := Lib.hid hs2
    have HO2 := Lib.hid (hst2.own HO.out hsz)
    have HB2 := Lib.hid (hst2.below HO.out (Nat.le_refl _) hsz HB.out)
    clear hs2 hp2 hst2
    go_wp2_with (fail)
    go_roundw
    case rel => exact ⟨k + 1,v2,l2,by go_num,by omega,HS2.out,HR.out.1,HR.out.2,HO2.out,HB2.out⟩
    case measure => simp [intOf];omega
  ·have hk2 : k = xs.length := by omega
   subst hk2
   clear hB
   go_wp2_with (fail)
   go_ret
   exact ⟨v,l,rfl,HS.out,fun x => by rw [HM.out,List.take_length],hlk,HO.out,HB.out⟩
end Go.Proofs.YtodgfbjjjgohgaaGreat
