/-
 container/heap up,on the row: a contract.
-/
import Derived.Test.YtodgfbjjjgohgaaGreatPZ
import Derived.Deep.RegionLaw
import Derived.OneCell
import Derived.Deep.AppendLies
namespace Go.Proofs.YtodgfbjjjgohgaaGreat

def par (k : Nat) : Nat := (k - 1) / 2
theorem swpL_get (l : List Int) (i j k : Nat) (hi : i < l.length) (hj : j < l.length) : (swpL l i j).getD k 0 = if k = j then l.getD i 0 else if k = i then l.getD j 0 else l.getD k 0 := by
 unfold swpL
 simp only [List.getD_eq_getElem?_getD,List.getElem?_set,List.length_set]
 by_cases h1 : k = j
 ·subst h1;simp [hj]
 ·by_cases h2 : k = i
  ·subst h2;simp [h1,Ne.symm h1,hi]
  ·simp [h1,h2,Ne.symm h1,Ne.symm h2]
theorem swpL_perm (l : List Int) (i j : Nat) (hi : i < l.length) (hj : j < l.length) : (swpL l i j).Perm l := by
 have h := Array.swap_perm (xs := l.toArray) (i := i) (j := j) (by simpa using hi) (by simpa using hj)
 have e : (l.toArray.swap i j (by simpa using hi) (by simpa using hj)).toList = swpL l i j := by
  simp [Array.swap_def,swpL,hi,hj]
 have := Array.perm_iff_toList_perm.1 h
 rw [e] at this;simpa using this

structure SameL (n : Nat) (l l' : List Int) : Prop where
 len : l'.length = l.length
 perm : l'.Perm l
 rest : ∀ k,n <= k -> l'.getD k 0 = l.getD k 0
theorem SameL.refl (n : Nat) (l : List Int) : SameL n l l := ⟨rfl,.refl _,fun _ _ => rfl⟩
theorem SameL.trans {n : Nat} {a b c : List Int} (h : SameL n a b) (k : SameL n b c) : SameL n a c := ⟨k.len.trans h.len,k.perm.trans h.perm,fun i hi => (k.rest i hi).trans (h.rest i hi)⟩
theorem SameL.swp (n : Nat) (l : List Int) (i j : Nat) (hi : i < n) (hj : j < n) (hn : n <= l.length) : SameL n l (swpL l i j) :=
 ⟨swpL_len _ _ _,swpL_perm _ _ _ (by omega) (by omega),fun k hk => by rw [swpL_get _ _ _ _ (by omega) (by omega),if_neg (by omega),if_neg (by omega)]⟩

def Hp (n : Nat) (l : List Int) : Prop := ∀ k,k < n -> 0 < k -> l.getD (par k) 0 <= l.getD k 0
structure UpOk (n : Nat) (l : List Int) (j : Nat) : Prop where
 jn : j < n
 nl : n <= l.length
 le : ∀ k,k < n -> 0 < k -> k ≠ j -> l.getD (par k) 0 <= l.getD k 0
 gr : ∀ k,k < n -> 0 < k -> par k = j -> 0 < j -> l.getD (par j) 0 <= l.getD k 0
theorem UpOk.stop {n : Nat} {l : List Int} {j : Nat} (h : UpOk n l j) (hs : j = 0 ∨ ¬ l.getD j 0 < l.getD (par j) 0) : Hp n l := by
 intro k hk h0
 by_cases e : k = j
 ·subst e;rcases hs with hs | hs <;> omega
 ·exact h.le k hk h0 e
theorem UpOk.next {n : Nat} {l : List Int} {j : Nat} (h : UpOk n l j) (h0 : 0 < j) (hs : l.getD j 0 < l.getD (par j) 0) : UpOk n (swpL l (par j) j) (par j) := by
 have hp : par j < j := by unfold par;omega
 have hjn := h.jn
 have hnl := h.nl
 have hg := fun k => swpL_get l (par j) j k (by omega) (by omega)
 refine ⟨by omega,by rw [swpL_len];exact h.nl,?_,?_⟩
 ·intro k hk hk0 hne
  have hpk : par k < k := by unfold par;omega
  rw [hg,hg]
  by_cases e1 : k = j
  ·subst e1
   rw [if_neg (by omega),if_pos rfl,if_pos rfl];omega
  ·have hl := h.le k hk hk0 e1
   rw [if_neg e1,if_neg hne]
   by_cases e2 : par k = j
   ·rw [if_pos e2];exact h.gr k hk hk0 e2 h0
   ·rw [if_neg e2]
    by_cases e3 : par k = par j
    ·rw [if_pos e3];rw [e3] at hl;omega
    ·rw [if_neg e3];exact hl
 ·intro k hk hk0 hpk hp0
  have hppj : par (par j) < par j := by unfold par at *;omega
  have hlt : par k < k := by unfold par;omega
  rw [hg,hg,if_neg (by omega),if_neg (by omega)]
  have hl := h.le (par j) (by omega) hp0 (by omega)
  by_cases e1 : k = j
  ·rw [if_pos e1];exact hl
  ·rw [if_neg e1,if_neg (by omega)]
   have := h.le k hk hk0 e1
   rw [hpk] at this;omega

structure DownOk (n : Nat) (l : List Int) (i0 i : Nat) : Prop where
 nl : n <= l.length
 ge : i0 <= i
 le : ∀ k,k < n -> 0 < k -> par k ≠ i -> ¬ (k = i0 /\ i = i0) -> l.getD (par k) 0 <= l.getD k 0
 gr : ∀ k,k < n -> 0 < k -> par k = i -> 0 < i -> l.getD (par i) 0 <= l.getD k 0
theorem DownOk.stop {n : Nat} {l : List Int} {i0 i : Nat} (h : DownOk n l i0 i) (hs : ∀ k,k < n -> 0 < k -> par k = i -> l.getD i 0 <= l.getD k 0) : (i0 < i -> Hp n l) /\ (i = i0 -> i0 < n -> UpOk n l i0) := by
 have h1 : ∀ k,k < n -> 0 < k -> ¬ (k = i0 /\ i = i0) -> l.getD (par k) 0 <= l.getD k 0 := by
  intro k hk h0 hn
  by_cases e : par k = i
  ·rw [e];exact hs k hk h0 e
  ·exact h.le k hk h0 e hn
 refine ⟨fun hlt k hk h0 => h1 k hk h0 (by omega),fun e hn => ⟨hn,h.nl,fun k hk h0 hne => h1 k hk h0 (by omega),fun k hk h0 hp h3 => ?_⟩⟩
 subst e;exact h.gr k hk h0 hp h3
theorem DownOk.next {n : Nat} {l : List Int} {i0 i j : Nat} (h : DownOk n l i0 i) (hj : j < n) (hj0 : 0 < j) (hp : par j = i) (hmin : ∀ k,k < n -> 0 < k -> par k = i -> l.getD j 0 <= l.getD k 0) (hs : l.getD j 0 < l.getD i 0) : DownOk n (swpL l i j) i0 j := by
 have hij : i < j := by unfold par at hp;omega
 have hge := h.ge
 have hnl := h.nl
 have hg := fun k => swpL_get l i j k (by omega) (by omega)
 refine ⟨by rw [swpL_len];exact h.nl,by omega,?_,?_⟩
 ·intro k hk h0 hpk _
  have hlt : par k < k := by unfold par;omega
  rw [hg,hg]
  by_cases e1 : k = j
  ·subst e1;rw [if_neg (by omega),if_pos hp,if_pos rfl];omega
  ·rw [if_neg e1,if_neg hpk]
   by_cases e2 : k = i
   ·subst e2
    rw [if_neg (by omega),if_pos rfl]
    exact h.gr j hj hj0 hp h0
   ·rw [if_neg e2]
    by_cases e3 : par k = i
    ·rw [if_pos e3];exact hmin k hk h0 e3
    ·rw [if_neg e3];exact h.le k hk h0 e3 (by omega)
 ·intro k hk h0 hpk hj1
  have hlt : par k < k := by unfold par;omega
  rw [hg,hg,hp,if_neg (by omega),if_pos rfl,if_neg (by omega),if_neg (by omega)]
  have := h.le k hk h0 (by omega) (by omega)
  rw [hpk] at this;exact this

theorem Hp.less {n m : Nat} {l : List Int} (h : Hp n l) (hm : m <= n) : Hp m l := fun k hk h0 => h k (by omega) h0
theorem Hp.swapped {l : List Int} (i : Nat) (h : Hp l.length l) (hi : i < l.length) : DownOk (l.length - 1) (swpL l i (l.length - 1)) i i := by
 have hg := fun k => swpL_get l i (l.length - 1) k (by omega) (by omega)
 refine ⟨by rw [swpL_len];omega,Nat.le_refl _,?_,?_⟩
 ·intro k hk h0 hp hn
  have hlt : par k < k := by unfold par;omega
  rw [hg,hg,if_neg (by omega),if_neg hp,if_neg (by omega),if_neg (by omega)]
  exact h k (by omega) h0
 ·intro k hk h0 hp hi0
  have hlt : par k < k := by unfold par;omega
  have hlt2 : par i < i := by unfold par;omega
  rw [hg,hg,if_neg (by omega),if_neg (by omega),if_neg (by omega),if_neg (by omega)]
  have h1 := h k (by omega) h0
  have h2 := h i (by omega) hi0
  rw [hp] at h1;omega
theorem Hp.pushed {l : List Int} (x : Int) (h : Hp l.length l) : UpOk (l.length + 1) (l ++ [x]) l.length := by
 have hg : ∀ k,k < l.length -> (l ++ [x]).getD k 0 = l.getD k 0 := fun k hk => by simp [List.getElem?_append,hk]
 refine ⟨by omega,by simp,?_,?_⟩
 ·intro k hk h0 hne
  have hlt : par k < k := by unfold par;omega
  rw [hg _ (by omega),hg _ (by omega)];exact h k (by omega) h0
 ·intro k hk h0 hp h3
  have hlt : par k < k := by unfold par;omega
  omega
theorem last_split (l : List Int) (n : Nat) (h : l.length = n + 1) : l = l.take n ++ [l.getD n 0] := by
 have e : l.getD n 0 = l[n] := by simp [h]
 rw [e,List.take_append_getElem]
 rw [List.take_of_length_le (by omega)]
theorem Hp.take {l : List Int} {n : Nat} (h : Hp n l) (hn : n <= l.length) : Hp (l.take n).length (l.take n) := by
 have hl : (l.take n).length = n := by simp;omega
 rw [hl]
 intro k hk h0
 have hlt : par k < k := by unfold par;omega
 have hg : ∀ k,k < n -> (l.take n).getD k 0 = l.getD k 0 := fun k hk => by simp [hk]
 rw [hg _ hk,hg _ (by omega)];exact h k hk h0
end Go.Proofs.YtodgfbjjjgohgaaGreat
namespace Go.Proofs.YtodgfbjjjgohgaaGreat
open Go.RowKit

theorem Tryz.info_addr : (Tryz.prog.info? 39).map (fun i => (i.zero,i.size,i.bytes)) = some (some (.int .u64 0),1,8) := by kernel_rfl

theorem HeapV.pushed {w w4 : World} {b g cap : Nat} {v : Value} {l : List Int} {x : Int} (h : HeapV w b v l)
  (hown : w4.ownsRow 0 39 1 (.slice (some ⟨g,0,none⟩) (l.length + 1) cap) (l.length + 1) (l.map (Value.int .u64) ++ [.int .u64 x])) (hgrow : (w.drew.alloc (.cells #[.int .u64 x] 39)).grownBy w4 v.ownBlock) (hat : v.ownBlock = some g ∨ g = w.heap.size + 1) :
  HeapV (w4.setCell ⟨b,0,none⟩ (.slice (some ⟨g,0,none⟩) (l.length + 1) cap)) b (.slice (some ⟨g,0,none⟩) (l.length + 1) cap) (l ++ [x]) ∧
  HStep b v (.slice (some ⟨g,0,none⟩) (l.length + 1) cap) w (w4.setCell ⟨b,0,none⟩ (.slice (some ⟨g,0,none⟩) (l.length + 1) cap)) /\ w4.cell? ⟨b,0,none⟩ = some v /\ w4.frozen? ⟨b,0,none⟩ = false := by
 have hb4 : Blk w4 b #[v] 142 := (h.blk.drew.alloc _).grown hgrow (fun e => h.ne e.symm)
 have hlt := h.blk.lt
 have hgb : g ≠ b := by
  rcases hat with e | e
  ·exact fun e2 => h.ne (by rw [e,e2])
  ·omega
 refine ⟨⟨?_,?_,fun e => hgb (by simpa [Value.ownBlock] using e)⟩,⟨?_,?_⟩,by rw [hb4.cell];rfl,hb4.frozen 0⟩
 ·have := hb4.set 0 (.slice (some ⟨g,0,none⟩) (l.length + 1) cap)
  exact this
 ·simp only [List.length_append,List.length_cons,List.length_nil,List.map_append,List.map_cons,List.map_nil]
  exact ownsRow_setCell_other hown (fun e => hgb (by simpa [Value.ownBlock] using e)) _
 ·exact ((((Keeps.refl _ w).drew).alloc _).grown hgrow (fun k hk => .inl (.inr hk))).setCell (.inl (.inl rfl)) _
 ·rcases hat with e | e
  ·exact .inl (by rw [e];rfl)
  ·exact .inr (fun k hk => by simp [Value.ownBlock] at hk;omega)

theorem assert_addr (x : Int) (w : World) : (Instr.typeAssert (.iface 39 (.int .u64 x)) 20 39 false).run Tryz.prog w = .ok (.int .u64 x) w := by kernel_rfl

set_option maxRecDepth 100000 in
set_option maxHeartbeats 2000000 in
theorem push_v (b : Nat) (v : Value) (l : List Int) (x : Int) (w : World) (h : HeapV w b v l) (hn : l.length <= 1000000) :
  Calls Tryz.prog 123 #[.pointer (some ⟨b,0,none⟩),.iface 39 (.int .u64 x)] w fun e w' => e = .returned (.tuple #[]) /\ ∃ v',HeapV w' b v' (l ++ [x]) /\ HStep b v v' w w' := by
 obtain ⟨i0,hi,hz0,hz1,hz2⟩ := info_parts Tryz.info_addr
 have H := Lib.hid h
 have hc := h.cell
 have hf := h.blk.frozen 0
 have hrow := h.row
 have ta := assert_addr x
 have hc2 : (w.alloc (.cells #[.int .u64 x] 39)).cell? ⟨b,0,none⟩ = some v := by rw [(h.blk.alloc _).cell];rfl
 clear h
 go_enter Tryz.func123,Tryz.ntmps123
 go_region_law ((refine step_append_lies _ rfl _ _ _ rfl 0 39 i0 (.int .u64 0) 1 8 Tryz.underlying140 hi hz0 hz1 hz2 rfl (by decide) v l.length (l.map (Value.int .u64)) (by simp [Act.eval]) (hrow.drew.alloc _) ⟨w.heap.size,0,none⟩ 1 1 [.int .u64 x] (by simp [Act.eval]) rfl (cell_one_new _ _ _) (by simp [Value.oneCell']) (by decide) (by unfold maxLen;omega) (by omega) (by simp) (w.heap.size + 1) (by simp) ?_;intro g cap w4 hown hgrow hat hlt;have HP := Lib.hid (H.out.pushed hown hgrow hat);have hc4 := HP.out.2.2.1;have hf4 := HP.out.2.2.2;clear hown hgrow hat hlt))
 all_goals
  go_end0
  exact ⟨rfl,_,HP.out.1,HP.out.2.1⟩
end Go.Proofs.YtodgfbjjjgohgaaGreat
namespace Go.Proofs.YtodgfbjjjgohgaaGreat
open Go.RowKit

def ShP (n b : Nat) (v : Value) (l : List Int) (w w' : World) : Prop := ∃ l',HeapV w' b v l' /\ SameL n l l' /\ Hp n l' /\ HStep b v v w w'

set_option maxRecDepth 100000 in
set_option maxHeartbeats 2000000 in
theorem up_v (b : Nat) (v : Value) (l : List Int) (n j : Nat) (w : World) (h : HeapV w b v l) (hn : l.length <= 1000000) (hu : UpOk n l j) :
  Calls Tryz.prog 81 #[.iface 146 (.pointer (some ⟨b,0,none⟩)),.int .i64 j] w fun e w' => e = .returned (.tuple #[]) /\ ShP n b v l w w' := by
 go_enter Tryz.func81,Tryz.ntmps81
 go_wp2_with (fail)
 go_loopw [1] (fun jv wr => ∃ (j' : Nat) (l' : List Int),jv = .int .i64 j' /\ HeapV wr b v l' /\ SameL n l l' /\ UpOk n l' j' /\ HStep b v v w wr) (fun jv _ => (intOf jv).toNat)
 case atStart => exact ⟨j,l,rfl,h,.refl _ _,hu,.refl _ _ _⟩
 case round =>
  obtain ⟨j',l',rfl,hv,hs,hu',hst⟩ := hrel
  have hlen := hs.len
  have hjn := hu'.jn
  have hnl := hu'.nl
  have hc := hv.cell
  by_cases h0 : j' = 0
  ·subst h0
   have HV := Lib.hid hv
   clear hv
   go_wp2_with (fail)
   go_end0
   exact ⟨rfl,l',HV.out,hs,hu'.stop (.inl rfl),hst⟩
  ·have hne : ¬ (((par j' : Nat) : Int) = (j' : Int)) := by unfold par;omega
   have hne2 : ¬ ((j' : Int) - 1) / 2 = (j' : Int) := by omega
   have hpj : par j' < j' := by unfold par;omega
   have HV := Lib.hid hv
   by_cases hless : l'.getD j' 0 < l'.getD (par j') 0
   ·have HL := Lib.hid (show Calls Tryz.prog 120 #[v,.int .i64 j',.int .i64 (par j')] wr fun e w' => e = .returned (.bool true) /\ ∃ q,w' = wr.drewN q by
     have := less_v b v l' j' (par j') wr hv (by omega) (by omega) (by omega);rwa [decide_eq_true hless] at this)
    have HS := Lib.hid (fun q => swap_v b v l' (par j') j' (wr.drewN q) (hv.drewN q) (by omega) (by omega) (by omega))
    have HU := Lib.hid (hu'.next (by omega) hless)
    have HW := Lib.hid (SameL.swp n l' (par j') j' (by omega) (by omega) (by omega))
    clear hv hless
    go_wp2_with (fail)
    rw [meth_less _ (by decide) wr b v hc,show ((j' : Int) - 1) / 2 = ((par j' : Nat) : Int) by unfold par;omega]
    go_wp2_with (go_at_call 120;refine HL.out.mono ?_;rintro e w2 ⟨rfl,q,rfl⟩)
    rw [meth_swap _ (by decide) (wr.drewN q) b v hc]
    go_wp2_with (go_at_call 121;refine (HS.out q).mono ?_;rintro e w3 ⟨rfl,hv3,hst3⟩;have HV3 := Lib.hid hv3;have HT3 := Lib.hid hst3;clear hv3 hst3)
    go_roundw
    case rel => exact ⟨par j',_,rfl,HV3.out,hs.trans HW.out,HU.out,(hst.drewN q).trans HT3.out⟩
    case measure => simp [intOf];omega
   ·have HL := Lib.hid (show Calls Tryz.prog 120 #[v,.int .i64 j',.int .i64 (par j')] wr fun e w' => e = .returned (.bool false) /\ ∃ q,w' = wr.drewN q by
     have := less_v b v l' j' (par j') wr hv (by omega) (by omega) (by omega);rwa [decide_eq_false hless] at this)
    have HU := Lib.hid (hu'.stop (.inr hless))
    clear hv hless
    go_wp2_with (fail)
    rw [meth_less _ (by decide) wr b v hc,show ((j' : Int) - 1) / 2 = ((par j' : Nat) : Int) by unfold par;omega]
    go_wp2_with (go_at_call 120;refine HL.out.mono ?_;rintro e w2 ⟨rfl,q,rfl⟩)
    go_end0
    exact ⟨rfl,l',HV.out.drewN q,hs,HU.out,hst.drewN q⟩
end Go.Proofs.YtodgfbjjjgohgaaGreat
