/-
 GEO AT ALL CLASSES,slab.word: contracts.
-/
import Derived.Test.YtodgfbjjjgohgaaGreatPZ
import Derived.RangeFuncNested
import Derived.RangeFuncBound
import Derived.RangeFuncCalls
import Derived.RangeFuncLeaves
import Derived.RangeFuncBox
import Derived.RangeFuncMany
import Derived.Shelf.Abstract
import Derived.Shelf.RegionOpen
import Derived.OwnWalkIn
import Derived.TacticsInMore
import Derived.RegionIn
import Derived.LoopNIn
import Derived.LoopIn
import Derived.Test.YtodgfbjjjgohgaaGreatKjZ
import Derived.Test.YtodgfbjjjgohgaaGreatHnZ
namespace Go.Proofs.YtodgfbjjjgohgaaGreat
open Go.RowKit Go.Shelf
attribute [local go_sem] Oper.semAt_some

def encI (x : Int) : Array Value := #[.int .i64 x]
def bitsTo (m k : Nat) : List Int := ((List.range k).filter (fun i => m.testBit i)).map (fun n : Nat => (n : Int))
def bitsL (m : Nat) : List Int := bitsTo m 64
theorem bitsTo_yes {m k : Nat} (h : m.testBit k = true) : bitsTo m (k + 1) = bitsTo m k ++ [(k : Int)] := by simp [bitsTo,List.range_succ,h]
theorem bitsTo_no {m k : Nat} (h : m.testBit k = false) : bitsTo m (k + 1) = bitsTo m k := by simp [bitsTo,List.range_succ,h]
theorem bitsTo_len (m k : Nat) : (bitsTo m k).length <= k := by
 have := List.length_filter_le (fun i => m.testBit i) (List.range k)
 simpa [bitsTo] using this
theorem bitsTo_pre (m k : Nat) : ∀ d,bitsTo m k <+: bitsTo m (k + d) := by
 intro d
 induction d with
 | zero => exact List.prefix_refl _
 | succ d ih =>
  rw [<- Nat.add_assoc]
  cases h : m.testBit (k + d)
  ·rw [bitsTo_no h];exact ih
  ·rw [bitsTo_yes h];exact ih.trans (List.prefix_append _ _)
def KpB (bc : Nat) (A B : World) : Prop := A.heap.size <= B.heap.size /\ (bc < A.heap.size -> B.heap[bc]? = A.heap[bc]?)
theorem kpB_t {bc : Nat} {A B C : World} (h : KpB bc A B) (k : KpB bc B C) : KpB bc A C := ⟨Nat.le_trans h.1 k.1,fun hb => (k.2 (by have := h.1;omega)).trans (h.2 hb)⟩
theorem kpB_b {w : World} {bc : Nat} (hn : bc < w.heap.size) (W : World) (l : Nat) (o o' : Obj) (hl : w.heap.size <= l) (h : W.heap[l]? = some o) (hc : o.isCells = false) (hw : o.isWalk = false) : KpB bc W (W.putObj l o') :=
 ⟨(belowK_b (w := w) (n₀ := bc + 1) (by omega) W l o o' hl h hc hw).size,fun hb => (belowK_b (w := w) (n₀ := bc + 1) (by omega) W l o o' hl h hc hw).block bc (by omega)⟩

theorem has_in (mm m : Nat) (hm : m < 18446744073709551616) (k : Nat) (w : World) : CallsIn Fence.wide mm Tryz.prog 65 #[.int .u64 m,.int .i64 k] w fun e w' => e = .returned (.bool (m.testBit k)) /\ w = w' := by
 refine callsIn_wide.2 ((bhas_v m hm k w).mono ?_)
 rintro e w' ⟨rfl,rfl⟩
 refine ⟨?_,rfl⟩
 rw [has_bit m hm];simp

set_option maxRecDepth 100000 in
set_option maxHeartbeats 1000000 in
theorem all_stops (mm : Nat) (hmm : 1 <= mm) (m : Nat) (hm : m < 18446744073709551616) (b : Nat) (w : World) (hb : Blk w b #[.int .u64 m] 25) :
  SeqStopsK Fence.wide mm Tryz.prog 64 #[.pointer (some ⟨b,0,none⟩)] encI (KpB b) (fun xs => xs = bitsL m) (fun pre => pre <+: bitsL m) 64 w := by
 intro l J Jx W hW _ _ hY h0
 have hB : Blk W b #[.int .u64 m] 25 := (hW.block b hb.lt).trans hb
 have hbW := hB.lt
 have HH := Lib.hid (fun (mm' k : Nat) (W : World) => has_in mm' m hm k W)
 clear hb hW
 refine callsIn_of_wp Tryz.func64 rfl trivial ?_ rfl
 simp only [Tryz.ntmps64,List.size_toArray,List.length_cons,List.length_nil,Nat.reduceAdd,Nat.reduceSub,Array.replicate_succ,Array.replicate_zero,List.push_toArray,List.append_toArray,List.nil_append,List.cons_append]
 gi_wp2
 gi_loopw [4] (fun iv wr => ∃ k : Nat,k <= 64 /\ iv = .int .i64 k /\ J (bitsTo m k) wr /\ Hid (Blk wr b #[.int .u64 m] 25)) (fun iv _ => 64 - (intOf iv).toNat)
 case atStart => exact ⟨0,Nat.zero_le _,rfl,h0,Lib.hid hB⟩
 case round =>
  obtain ⟨k,hk,rfl,hJ,hBk⟩ := hrel
  have hc := hBk.out.cell 0
  rw [show (#[Value.int .u64 m] : Array Value)[0]? = some (.int .u64 m) from rfl] at hc
  by_cases hlt : k < 64
  ·have b1 : (k : Int) < 64 := by omega
   cases hb : m.testBit k
   ·have HH2 := Lib.hid (show ∀ mm',CallsIn Fence.wide mm' Tryz.prog 65 #[.int .u64 m,.int .i64 k] wr fun e w' => e = .returned (.bool false) /\ wr = w' by intro mm';have := HH.out mm' k wr;rwa [hb] at this)
    have HE := Lib.hid (bitsTo_no hb)
    clear hb
    gi_wp2_with (refine ⟨trivial,?_⟩;gi_at_call 65;refine (HH2.out _).mono ?_;rintro e w' ⟨rfl,rfl⟩)
    refine ⟨fun _ h => (by cases h),?_⟩
    gi_wp2
    go_roundw
    case rel => exact ⟨k + 1,by omega,by go_num,by rw [HE.out];exact hJ,hBk⟩
    case measure => simp [intOf];omega
   ·have HH2 := Lib.hid (show ∀ mm',CallsIn Fence.wide mm' Tryz.prog 65 #[.int .u64 m,.int .i64 k] wr fun e w' => e = .returned (.bool true) /\ wr = w' by intro mm';have := HH.out mm' k wr;rwa [hb] at this)
    have HE := Lib.hid (bitsTo_yes hb)
    clear hb
    obtain ⟨fn,tmps,assign,body,hy,hR⟩ := hY _ (k : Int) wr hJ (by have := bitsTo_len m k;omega)
    dsimp only [encI] at hy
    gi_wp2_with (refine ⟨trivial,?_⟩;gi_at_call 65;refine (HH2.out _).mono ?_;rintro e w' ⟨rfl,rfl⟩)
    refine hR.mono ?_
    rintro e W3 (⟨rfl,hJ3,hk3⟩ | ⟨rfl,hJx3⟩)
    ·have HB3 := Lib.hid (show Blk W3 b #[.int .u64 m] 25 from (hk3.2 hBk.out.lt).trans hBk.out)
     clear hk3
     gi_wp2
     go_roundw
     case rel => exact ⟨k + 1,by omega,by go_num,by rw [HE.out];exact hJ3,HB3⟩
     case measure => simp [intOf];omega
    ·have HX := Lib.hid (show bitsTo m k ++ [(k : Int)] <+: bitsL m from by rw [<- HE.out];have := bitsTo_pre m (k + 1) (64 - (k + 1));rwa [show k + 1 + (64 - (k + 1)) = 64 by omega] at this)
     gi_wp2
     refine bodyPost_ret (results_none rfl _ _ _) rfl ?_
     exact ⟨⟨_,rfl⟩,.inr ⟨_,HX.out,hJx3⟩⟩
  ·have hk2 : k = 64 := by omega
   subst hk2
   gi_wp2
   go_end0
   exact ⟨⟨_,rfl⟩,.inl ⟨_,rfl,hJ⟩⟩
end Go.Proofs.YtodgfbjjjgohgaaGreat
namespace Go.Proofs.YtodgfbjjjgohgaaGreat
open Go.RowKit Go.Shelf
attribute [local go_sem] Oper.semAt_some

theorem Blk.putB {w w' : World} {row : Option Nat} {b : Nat} {C : Array Value} {t : TypeId} (h : Blk w b C t) (hg : w.grownBy w' row)
  (hr : ∀ r,row = some r -> ∃ o : Obj,w.heap[r]? = some o /\ o.isCells = false) : Blk w' b C t := by
 refine h.grown hg (fun e => ?_)
 obtain ⟨o,ho,hc⟩ := hr b e.symm
 unfold Blk at h
 rw [h] at ho;cases ho;cases hc

theorem all_calls (mm m : Nat) (w : World) :
  CallsIn Fence.wide mm Tryz.prog 45 #[.int .u64 m] w fun e w' => e = .returned (.func (.func 64) #[] #[.pointer (some ⟨w.heap.size,0,none⟩)]) /\ w' = w.alloc (.cells #[.int .u64 m] 25) := by
 refine callsIn_wide.2 ?_
 go_enter Tryz.func45,Tryz.ntmps45
 go_wp2
 go_ret
 exact ⟨rfl,rfl⟩

def mayBt (m : Nat) (n : Int) : Bool := (bitsL m).all (fun x => decide (x < n))

set_option maxRecDepth 100000 in
set_option maxHeartbeats 2000000 in
theorem may_in (m : Nat) (hm : m < 18446744073709551616) (n : Int) (w : World) :
  CallsIn Fence.wide 9 Tryz.prog 42 #[.int .u64 m,.int .i64 n] w fun e W' => e = .returned (.bool (mayBt m n)) /\ Below w.heap.size w W' := by
 refine callsIn_of_wp_marks Tryz.func42 rfl trivial ?_ rfl
 simp only [Tryz.ntmps42,List.size_toArray,List.length_cons,List.length_nil,Nat.reduceAdd,Nat.reduceSub,Array.replicate_succ,Array.replicate_zero,List.push_toArray,List.append_toArray,List.nil_append,List.cons_append]
 gi_wp2_with (refine ⟨trivial,?_⟩;gi_at_call 45;refine (all_calls _ m _).mono ?_;rintro e w' ⟨rfl,rfl⟩)
 obtain ⟨w3,hw3⟩ : ∃ w3,w3 = ((w.alloc (.cells #[.int .i64 n] 3)).alloc (.cells #[.bool false] 4)).alloc (.cells #[.int .u64 m] 25) := ⟨_,rfl⟩
 have b3 : Blk w3 (w.heap.size + 2) #[.int .u64 m] 25 := by
  rw [hw3];have := Blk.new ((w.alloc (.cells #[.int .i64 n] 3)).alloc (.cells #[.bool false] 4)) #[.int .u64 m] 25;simpa using this
 have k3 : Blk w3 (w.heap.size + 1) #[.bool false] 4 := by
  rw [hw3];have := (Blk.new (w.alloc (.cells #[.int .i64 n] 3)) #[.bool false] 4).alloc (.cells #[.int .u64 m] 25);simpa using this
 have n3 : Blk w3 w.heap.size #[.int .i64 n] 3 := by
  rw [hw3];exact ((Blk.new w #[.int .i64 n] 3).alloc _).alloc _
 have hB0 : Below w.heap.size w w3 := by
  rw [hw3];exact (((Below.refl _ w).alloc (Nat.le_refl _) _).alloc (by simp) _).alloc (by simp;omega) _
 have hs3 : w3.heap.size = w.heap.size + 3 := by rw [hw3];simp
 rw [<- hw3]
 clear hw3
 refine wpIn_rangeFunc_ownF rfl (by omega) (gf := 64) (lb := #[.pointer (some ⟨w.heap.size + 2,0,none⟩)]) (by simp [Act.eval]) trivial (enters_of Tryz.func64 (by kernel_rfl) rfl)
  (all_stops 8 (by omega) m hm (w.heap.size + 2) w3 b3) kpB_t (kpB_b (by omega)) (Below.refl _ _) (fun _ => rfl)
  (fun pre W => ((∀ x ∈ pre,x < n) /\ Blk W w.heap.size #[.int .i64 n] 3 /\ Blk W (w.heap.size + 1) #[.bool false] 4) /\ Below w.heap.size w W)
  (fun c pre W => (c = .ret /\ (∃ x ∈ pre,n <= x) /\ Blk W (w.heap.size + 1) #[.bool false] 4) /\ Below w.heap.size w W)
  (fun s A B row hs hg hr => by
   obtain ⟨⟨h1,h2,h3⟩,h4⟩ := hs
   exact ⟨⟨h1,h2.putB hg (fun r e => (hr r e).2),h3.putB hg (fun r e => (hr r e).2)⟩,h4.grown hg h4.size (fun r e => by have := (hr r e).1;omega)⟩)
  (fun c s A B row hs hg hr => by
   obtain ⟨⟨h1,h2,h3⟩,h4⟩ := hs
   exact ⟨⟨h1,h2,h3.putB hg (fun r e => (hr r e).2)⟩,h4.grown hg h4.size (fun r e => by have := (hr r e).1;omega)⟩)
  ⟨⟨(fun x hx => by cases hx),n3,k3⟩,hB0⟩
  (fun x => { tmps := #[.int .u64 m,.int .i64 n,undef,.pointer (some ⟨w.heap.size,0,none⟩),.pointer (some ⟨w.heap.size + 1,0,none⟩),.int .i64 x,.int .u64 m,.func (.func 64) #[] #[.pointer (some ⟨w.heap.size + 2,0,none⟩)],.int .i64 x,undef,undef,undef],defers := [] }) ?assign ?body ?done ?stop
 case assign =>
  intro l x W K hK
  simp [encI]
  gi_wp2
  exact hK
 case body =>
  rintro l pre x W ⟨⟨h0,hn,hk⟩,hB⟩ hlen
  have hc0 := hn.cell 0
  rw [show (#[Value.int .i64 n] : Array Value)[0]? = some (.int .i64 n) from rfl] at hc0
  have hc := hk.cell 0
  have hf := hk.frozen 0
  rw [show (#[Value.bool false] : Array Value)[0]? = some (.bool false) from rfl] at hc
  have H0 := Lib.hid h0
  have HN := Lib.hid hn
  have HK := Lib.hid hk
  have HB := Lib.hid hB
  clear h0 hk hB hn
  by_cases hx : n <= x
  ·gi_wp2
   exact ⟨KeepsOthers.setCell _ _ _,⟨rfl,⟨x,by simp,hx⟩,by simpa using HK.out.set 0 (.bool false)⟩,HB.out.setCell (p := ⟨w.heap.size + 1,0,none⟩) (by simp) _⟩
  ·gi_wp2
   exact ⟨KeepsOthers.refl _,⟨Nat.le_refl _,fun _ => rfl⟩,⟨fun y hy => by
    rcases List.mem_append.1 hy with h | h
    ·exact H0.out y h
    ·rw [List.mem_singleton] at h;subst h;omega,HN.out,HK.out⟩,HB.out⟩
 case done =>
  rintro D xs W hD rfl ⟨⟨h0,hn,hk⟩,hB⟩ hK
  have hc := hk.cell 0
  have hf := hk.frozen 0
  rw [show (#[Value.bool false] : Array Value)[0]? = some (.bool false) from rfl] at hc
  have hsz := hB.size
  have hKs := (KeepsOthers.setCell W ⟨w.heap.size + 1,0,none⟩ (.bool true)).same D _ hK rfl
  have HB := Lib.hid (hB.setCell (p := ⟨w.heap.size + 1,0,none⟩) (by simp) (.bool true))
  have HK1 := Lib.hid (hk.set 0 (.bool true))
  have H0 := Lib.hid (show mayBt m n = true from by unfold mayBt;rw [List.all_eq_true];exact fun x hx => decide_eq_true (h0 x hx))
  clear hk hB h0 hn
  gi_wp2
  refine ⟨by simp,.inl ⟨_,_,rfl,run_takeDeferred hKs,?_⟩⟩
  have hc5 : ((W.setCell ⟨w.heap.size + 1,0,none⟩ (.bool true)).putObj D (.deferred none)).cell? ⟨w.heap.size + 1,0,none⟩ = some (.bool true) := by
   have := HK1.out.grown (grownBy_putObj' _ D (.deferred none)) (fun e => by
    have e1 := Option.some.inj e
    omega)
   rw [this.cell];rfl
  exact ⟨.bool true,by simp [results,Tryz.results42,go_sem,hc5],by rw [H0.out],HB.out.trans (belowK_b (w := w) (Nat.le_refl _) _ D _ _ (by omega) hKs rfl rfl)⟩
 case stop =>
  rintro D c pre W hD hpre ⟨⟨rfl,⟨x,hx,hnx⟩,hk⟩,hB⟩ hK
  have H0 := Lib.hid (show mayBt m n = false from by
   unfold mayBt
   rw [List.all_eq_false]
   exact ⟨x,hpre.subset hx,by simpa using hnx⟩)
  have hsz := hB.size
  have HK1 := Lib.hid hk
  have HB := Lib.hid hB
  clear hk hB hx hnx
  gi_wp2
  refine ⟨by simp,.inl ⟨_,_,rfl,run_takeDeferred hK,?_⟩⟩
  have hc5 : (W.putObj D (.deferred none)).cell? ⟨w.heap.size + 1,0,none⟩ = some (.bool false) := by
   have := HK1.out.grown (grownBy_putObj' _ D (.deferred none)) (fun e => by
    have e1 := Option.some.inj e
    omega)
   rw [this.cell];rfl
  exact ⟨.bool false,by simp [results,Tryz.results42,go_sem,hc5],by rw [H0.out],HB.out.trans (belowK_b (w := w) (Nat.le_refl _) _ D _ _ (by omega) hK rfl rfl)⟩

theorem may_calls (m : Nat) (hm : m < 18446744073709551616) (n : Int) (w : World) : Calls Tryz.prog 42 #[.int .u64 m,.int .i64 n] w fun e W' => e = .returned (.bool (mayBt m n)) /\ Below w.heap.size w W' := callsIn_wide.1 (may_in m hm n w)
end Go.Proofs.YtodgfbjjjgohgaaGreat
namespace Go.Proofs.YtodgfbjjjgohgaaGreat
open Go.RowKit
attribute [local go_sem] Oper.semAt_some
set_option linter.unusedVariables false

def blkK (c : Nat) : Nat := if c = 1 then 15 else if c = 2 then 7 else if c = 3 then 5 else 0
theorem blkK_le (c : Nat) : blkK c <= 15 := by unfold blkK;split;omega;split;omega;split <;> omega
set_option maxRecDepth 100000 in
theorem blocks_k (c : Nat) (h : c <= 3) (w : World) : Calls Tryz.prog 43 #[.int .i64 (c : Int)] w fun e w' => e = .returned (.int .i64 (blkK c : Int)) /\ Below w.heap.size w w' := by
 obtain rfl | rfl | rfl | rfl : c = 0 ∨ c = 1 ∨ c = 2 ∨ c = 3 := by omega
 ·go_enter Tryz.func43,Tryz.ntmps43
  go_wp2
  go_ret
  exact ⟨rfl,((Below.refl _ _).alloc (Nat.le_refl _) _).alloc (by simp) _⟩
 ·exact blocks_1 w
 ·exact blocks_2 w
 ·go_enter Tryz.func43,Tryz.ntmps43
  go_wp2
  go_ret
  exact ⟨rfl,((Below.refl _ _).alloc (Nat.le_refl _) _).alloc (by simp) _⟩
set_option maxRecDepth 100000 in
theorem bytes_k (c : Nat) (h : 1 <= c /\ c <= 3) (w : World) : Calls Tryz.prog 66 #[.int .i64 (c : Int)] w fun e w' => e = .returned (.int .i64 ((64 * c : Nat) : Int)) /\ Below w.heap.size w w' := by
 obtain rfl | rfl | rfl : c = 1 ∨ c = 2 ∨ c = 3 := by omega
 all_goals
  go_enter Tryz.func66,Tryz.ntmps66
  go_wp2_with (go_at_call 43;refine (blocks_k _ (by decide) _).mono ?_;rintro e w1 ⟨rfl,hb⟩)
  go_ret
  exact ⟨rfl,hb⟩
theorem gbits_s (s : Nat) (h : 1 <= s /\ s <= 64) (w : World) : Calls Tryz.prog 41 #[.int .i64 (s : Int)] w fun e w' => e = .returned (.int .u64 ((1024 * s + 8 : Nat) : Int)) /\ w = w' := by
 have hz : (1024 * (s : Int) == 0) = false := by simp;omega
 have hs : (s : Int) <= 64 := by omega
 have HH := Lib.hid (fun W => header_s (s : Int) (by omega) W)
 have hw : IntKind.u64.wrap (1024 * (s : Int) + 8) = 1024 * (s : Int) + 8 := IntWalk.u64_in _ (by omega)
 have HE := Lib.hid (show (1024 * (s : Int) + 8) = ((1024 * s + 8 : Nat) : Int) by omega)
 clear h
 go_enter Tryz.func41,Tryz.ntmps41
 go_wp2_with (go_at_call 40;refine (HH.out _).mono ?_;rintro e w1 ⟨rfl,rfl⟩)
 go_ret
 exact ⟨by rw [HE.out];rfl,rfl⟩
def blockK (s c : Nat) (j : Int) : Int := if 0 <= j /\ j < (blkK c : Int) then 1024 * (s : Int) + 64 + j * (64 * (c : Int)) else 0
theorem blockK_rng (s c : Nat) (hs : s <= 64) (j : Int) (hc : c <= 3) : 0 <= blockK s c j /\ blockK s c j <= 100000 := by
 unfold blockK
 split
 ·rename_i h
  have h1 := blkK_le c
  have h2 : j * (64 * (c : Int)) <= 15 * 192 := Int.mul_le_mul (by omega) (by omega) (by omega) (by omega)
  have h3 : 0 <= j * (64 * (c : Int)) := Int.mul_nonneg h.1 (by omega)
  omega
 ·omega
set_option maxRecDepth 100000 in
theorem block_k (s c : Nat) (j : Int) (hs : 1 <= s /\ s <= 64) (hc : c <= 3) (w : World) :
  Calls Tryz.prog 46 #[.int .i64 (s : Int),.int .i64 (c : Int),.int .i64 j] w fun e w' => e = .returned (.int .u64 (blockK s c j)) /\ Below w.heap.size w w' := by
 have hz : (1024 * (s : Int) == 0) = false := by simp;omega
 have HH := Lib.hid (fun W => header_s (s : Int) (by omega) W)
 have HB := Lib.hid (fun W => blocks_k c hc W)
 have hb15 : (blkK c : Int) <= 15 := by have := blkK_le c;omega
 have hs64 : (s : Int) <= 64 := by omega
 by_cases hj : 0 <= j /\ j < (blkK c : Int)
 ·have HR := Lib.hid (show blockK s c j = 1024 * (s : Int) + 64 + j * (64 * (c : Int)) by unfold blockK;rw [if_pos hj])
  have hc1 : 1 <= c := by
   rcases Nat.eq_zero_or_pos c with h | h
   ·subst h;have h2 := hj.2;rw [show blkK 0 = 0 from rfl] at h2;omega
   ·exact h
  have HY := Lib.hid (fun W => bytes_k c ⟨hc1,hc⟩ W)
  have hm1 : 0 <= j * (64 * (c : Int)) := Int.mul_nonneg hj.1 (by omega)
  have hm2 : j * (64 * (c : Int)) <= 15 * 192 := Int.mul_le_mul (by omega) (by omega) (by omega) (by omega)
  obtain ⟨m,hm⟩ : ∃ m,j * (64 * (c : Int)) = m := ⟨_,rfl⟩
  rw [hm] at hm1 hm2
  have hy64 : (((64 * c : Nat) : Int)) = 64 * (c : Int) := by omega
  have hj0 := hj.1
  have hj1 := hj.2
  obtain ⟨bn,hbn⟩ : ∃ bn : Int,(blkK c : Int) = bn := ⟨_,rfl⟩
  rw [hbn] at hb15 hj1 HB
  have HW := Lib.hid (fun W => withinI_yes j 0 (bn - 1) (by omega) W)
  have hc3 : (c : Int) <= 3 := by omega
  rw [hy64] at HY
  have Hm := Lib.hid hm
  clear hj hs hc hc1 hbn hy64
  go_enter Tryz.func46,Tryz.ntmps46
  go_wp2_with (first
   | (go_at_call 40;refine (HH.out _).mono ?_;rintro e w1 ⟨rfl,rfl⟩)
   | (go_at_call 43;refine (HB.out _).mono ?_;rintro e w1 ⟨rfl,hb1⟩)
   | (go_at_call 61;refine (HW.out _).mono ?_;rintro e w1 ⟨rfl,rfl⟩)
   | (go_at_call 66;refine (HY.out _).mono ?_;rintro e w2 ⟨rfl,hb2⟩))
  go_ret
  exact ⟨by rw [HR.out,Hm.out];rfl,hb1.trans (hb2.mono hb1.size)⟩
 ·have HR := Lib.hid (show blockK s c j = 0 by unfold blockK;rw [if_neg hj])
  obtain ⟨bn,hbn⟩ : ∃ bn : Int,(blkK c : Int) = bn := ⟨_,rfl⟩
  have hb0 : 0 <= bn := by omega
  rw [hbn] at hb15 hj HB
  have HW := Lib.hid (fun W => withinI_no j 0 (bn - 1) (by omega) W)
  clear hj hs hc hbn
  go_enter Tryz.func46,Tryz.ntmps46
  go_wp2_with (first
   | (go_at_call 40;refine (HH.out _).mono ?_;rintro e w1 ⟨rfl,rfl⟩)
   | (go_at_call 43;refine (HB.out _).mono ?_;rintro e w1 ⟨rfl,hb1⟩)
   | (go_at_call 61;refine (HW.out _).mono ?_;rintro e w1 ⟨rfl,rfl⟩))
  go_ret
  exact ⟨by rw [HR.out];rfl,hb1⟩
theorem gslabs_v (sl : Nat) (h : 1 <= sl /\ sl <= 64) (w : World) : Calls Tryz.prog 37 #[.int .i64 ((1024 * (sl + 1) : Nat) : Int)] w fun e w' => e = .returned (.tuple #[.int .i64 (sl : Int),.bool true]) /\ w = w' := by
 obtain ⟨N,hN⟩ : ∃ N,1024 * (sl + 1) = N := ⟨_,rfl⟩
 have HW := Lib.hid (fun W => withinI_yes (sl : Int) 1 64 (by omega) W)
 rw [hN]
 have hd : (N : Int) / 1024 = (sl : Int) + 1 := by omega
 have hm : (N : Int) % 1024 = 0 := by omega
 have hN6 : (N : Int) <= 66560 := by omega
 have hdt : (N : Int).tdiv 1024 = (sl : Int) + 1 := by rw [Int.tdiv_eq_ediv_of_nonneg (by omega)];exact hd
 have hmt : (N : Int).tmod 1024 = 0 := by rw [Int.tmod_eq_emod_of_nonneg (by omega)];exact hm
 have hs : (sl : Int) <= 64 := by omega
 clear h hN
 go_enter Tryz.func37,Tryz.ntmps37
 go_wp2_with (go_at_call 61;refine (HW.out _).mono ?_;rintro e w1 ⟨rfl,rfl⟩)
 go_ret2
 exact ⟨rfl,rfl⟩
theorem gsize_v (sl : Nat) (h : 1 <= sl /\ sl <= 64) (w : World) : Calls Tryz.prog 51 #[.int .i64 (sl : Int)] w fun e w' => e = .returned (.int .i64 ((1024 * (sl + 1) : Nat) : Int)) /\ w = w' := by
 have HW := Lib.hid (fun W => withinI_yes (sl : Int) 1 64 (by omega) W)
 have hs : (sl : Int) <= 64 := by omega
 have HE := Lib.hid (show 1024 * (1 + (sl : Int)) = ((1024 * (sl + 1) : Nat) : Int) by omega)
 clear h
 go_enter Tryz.func51,Tryz.ntmps51
 go_wp2_with (go_at_call 61;refine (HW.out _).mono ?_;rintro e w1 ⟨rfl,rfl⟩)
 go_ret
 exact ⟨by rw [HE.out];rfl,rfl⟩
/-! . -/
theorem wd_snoc : ∀ (l : List UInt8) (b : UInt8),wd (l ++ [b]) = wd l + (b.toNat : Int) * ((256 ^ l.length : Nat) : Int)
 | [],b => by simp [wd]
 | x :: l,b => by
  rw [List.cons_append,wd,wd_snoc l b,wd,List.length_cons,Nat.pow_succ]
  have e : ((256 ^ l.length * 256 : Nat) : Int) = ((256 ^ l.length : Nat) : Int) * 256 := by simp
  rw [e,Int.add_mul,Int.mul_assoc]
  omega
theorem or_stepK (m x k : Nat) (hk : k < 8) (hm : m < 256 ^ k) (hx : x < 256) : bits BinOp.or IntKind.u64 (m : Int) (IntKind.u64.wrap (IntKind.u64.wrap (x : Int) * 2 ^ (8 * k))) = ((m + x * 256 ^ k : Nat) : Int) := by
 have hp : (256 : Nat) ^ k = 2 ^ (8 * k) := by rw [Nat.pow_mul]
 have h7 : (256 : Nat) ^ k <= 256 ^ 7 := Nat.pow_le_pow_right (by decide) (by omega)
 have e7 : (256 : Nat) ^ 7 = 72057594037927936 := by decide
 have hxp : x * 256 ^ k <= 255 * 256 ^ k := Nat.mul_le_mul_right _ (by omega)
 have e1 : IntKind.u64.wrap (x : Int) = (x : Int) := IntWalk.u64_in _ (by omega)
 have e2 : (x : Int) * 2 ^ (8 * k) = ((x * 256 ^ k : Nat) : Int) := by rw [hp];simp
 rw [e1,e2,IntWalk.u64_in _ (by omega),u64_or_nat m (x * 256 ^ k) (by omega) (by omega)]
 have h := Nat.shiftLeft_add_eq_or_of_lt (a := x) (b := m) (i := 8 * k) (by omega)
 rw [Nat.shiftLeft_eq,<- hp] at h
 rw [Nat.or_comm,<- h,Nat.add_comm]
set_option maxRecDepth 100000 in
set_option maxHeartbeats 4000000 in
theorem sword_v (w : World) (gb cb : Nat) (L : List UInt8) (a : Nat) (hb : BytesAt w gb 0 L) (ha : a + 8 <= L.length) (hl : L.length <= 1000000) :
  Calls Tryz.prog 39 #[.slice (some ⟨gb,0,none⟩) L.length cb,.int .u64 (a : Int)] w fun e w' => e = .returned (.int .u64 (wd ((L.drop a).take 8))) /\ w = w' := by
 have HB := Lib.hid hb
 have HA := Lib.hid ha
 have hai : (a : Int) <= 1000000 := by omega
 obtain ⟨ln,hln⟩ : ∃ ln,L.length = ln := ⟨_,rfl⟩
 have HL := Lib.hid hln
 have haln : a + 8 <= ln := by omega
 rw [hln]
 clear hb ha hl hln
 go_enter Tryz.func39,Tryz.ntmps39
 go_upto_region 2 with (fail)
 go_loopw [4,6] (fun nv iv wr => ∃ k : Nat,k <= 8 /\ iv = .int .u64 (k : Int) /\ nv = .int .u64 (wd ((L.drop a).take k)) /\ w = wr) (fun _ iv _ => 8 - (intOf iv).toNat)
 case atStart => exact ⟨0,by omega,rfl,by simp [wd],rfl⟩
 case round =>
  obtain ⟨k,hk,rfl,rfl,rfl⟩ := hrel
  by_cases hlt : k < 8
  ·have b1 : (k : Int) < 8 := by omega
   have hx : ∃ x : UInt8,L[a + k]? = some x := ⟨_,List.getElem?_eq_getElem (by have := HA.out;omega)⟩
   obtain ⟨x,hx⟩ := hx
   have hc : w.cell? ⟨gb,a + k,none⟩ = some (.int .u8 (x.toNat : Int)) := by
    have h1 := HB.out (a + k) (by have := HA.out;omega)
    rw [Nat.zero_add] at h1
    rw [h1]
    have := (List.getElem?_eq_some_iff.1 hx).2
    rw [this]
   obtain ⟨m,hm⟩ := Int.eq_ofNat_of_zero_le (wd_nonneg ((L.drop a).take k))
   have hmlt := wd_lt ((L.drop a).take k)
   have hlk : ((L.drop a).take k).length = k := by rw [List.length_take,List.length_drop];have := HA.out;omega
   rw [hlk,hm] at hmlt
   have hnx : wd ((L.drop a).take (k + 1)) = ((m + x.toNat * 256 ^ k : Nat) : Int) := by
    rw [List.take_add_one,List.getElem?_drop,hx,Option.toList_some,wd_snoc,hlk,hm]
    simp
   have HNx := Lib.hid hnx
   rw [hm]
   have HS := Lib.hid (or_stepK m x.toNat k hlt (by omega) x.toNat_lt)
   have HLt := Lib.hid hlt
   clear hnx hlk hmlt hx hm hlt
   go_wp2_with (fail)
   go_roundw
   case rel => exact ⟨k + 1,HLt.out,by go_num,by rw [HNx.out,<- HS.out],trivial⟩
   case measure => have := HLt.out;simp [intOf];omega
  ·obtain rfl : k = 8 := by omega
   go_wp2_with (fail)
   go_ret
   exact ⟨rfl,rfl⟩
end Go.Proofs.YtodgfbjjjgohgaaGreat
