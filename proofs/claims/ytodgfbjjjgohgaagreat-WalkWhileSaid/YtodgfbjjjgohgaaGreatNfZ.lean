/-
 node.Find,last,At: contracts.
-/
import Derived.Test.YtodgfbjjjgohgaaGreatNdZ
import Derived.RangeFuncNested
import Derived.RangeFuncBound
import Derived.RangeFuncCalls
import Derived.RangeFuncLeaves
import Derived.RangeFuncBox
import Derived.Shelf.Abstract
import Derived.Shelf.RegionOpen
import Derived.OwnWalkIn
import Derived.TacticsInMore
import Derived.LoopNIn
import Derived.LoopIn
import Derived.Outline
import Derived.Maps.AppendAt
import Derived.StillTactics
import Derived.Deep.RegionHeld3
import Derived.Deep.AppendLies
import Derived.WalkSpells
import Derived.BigQuiet
import Derived.Deep.QuietTactic
import Derived.Test.YtodgfbjjjgohgaaGreatPZ
namespace Go.Proofs.YtodgfbjjjgohgaaGreat
open Go.RowKit Go.Shelf
attribute [local go_sem] Oper.semAt_some

def Nd.ahead (n : Nd) : Nat -> Int
 | 0 => n.fi
 | i + 1 => n.p i
def Nd.lenFrom (n : Nd) : Nat -> Nat -> Nat
 | 0,_ => 0
 | d + 1,i => if n.p i = 0 then 0 else n.lenFrom d (i + 1) + 1
def Nd.len (n : Nd) : Nat := n.lenFrom 8 0
def Nd.ents (n : Nd) : List (Int × Bool) := (List.range n.len).map (fun (i : Nat) => ((i : Int),n.p i != n.ahead i))

theorem lenFrom_le (n : Nd) : ∀ d i,n.lenFrom d i <= d := by
 intro d
 induction d with
 | zero => intro i;simp [Nd.lenFrom]
 | succ d ih => intro i;unfold Nd.lenFrom;split;omega;have := ih (i + 1);omega
theorem Nd.len_le (n : Nd) : n.len <= 8 := lenFrom_le n 8 0
theorem lenFrom_lt (n : Nd) : ∀ d i j,i <= j -> j < i + n.lenFrom d i -> n.p j ≠ 0 := by
 intro d
 induction d with
 | zero => intro i j h1 h2;simp [Nd.lenFrom] at h2;omega
 | succ d ih =>
  intro i j h1 h2
  unfold Nd.lenFrom at h2
  split at h2
  ·omega
  ·rename_i hp
   by_cases e : j = i
   ·subst e;exact hp
   ·exact ih (i + 1) j (by omega) (by omega)
theorem lenFrom_end (n : Nd) : ∀ d i,n.lenFrom d i < d -> n.p (i + n.lenFrom d i) = 0 := by
 intro d
 induction d with
 | zero => intro i h;omega
 | succ d ih =>
  intro i h
  unfold Nd.lenFrom at h ⊢
  split
  ·rename_i hp;simpa using hp
  ·rename_i hp
   rw [if_neg hp] at h
   have := ih (i + 1) (by omega)
   rw [show i + (n.lenFrom d (i + 1) + 1) = i + 1 + n.lenFrom d (i + 1) by omega]
   exact this
theorem Nd.p_lt (n : Nd) (j : Nat) (h : j < n.len) : n.p j ≠ 0 := lenFrom_lt n 8 0 j (by omega) (by unfold Nd.len at h;omega)
theorem Nd.p_len (n : Nd) (h : n.len < 8) : n.p n.len = 0 := by
 have := lenFrom_end n 8 0 h
 simpa [Nd.len] using this

theorem ents_len (n : Nd) : n.ents.length = n.len := by simp [Nd.ents]
theorem ents_take (n : Nd) (k : Nat) (h : k < n.len) : n.ents.take k ++ [((k : Int),n.p k != n.ahead k)] = n.ents.take (k + 1) := by
 rw [List.take_succ_eq_append_getElem (by rw [ents_len];exact h)]
 simp [Nd.ents]
theorem ents_all (n : Nd) : n.ents.take n.len = n.ents := List.take_of_length_le (by rw [ents_len];exact Nat.le_refl _)

def encE (x : Int × Bool) : Array Value := #[.int .i64 x.1,.bool x.2]
def AnyW : World -> World -> Prop := fun _ _ => True

set_option maxHeartbeats 1000000 in
set_option maxRecDepth 100000 in
theorem entries_stops (m : Nat) (hm : 1 <= m) (n : Nd) (b : Nat) (w : World) (hb : Blk w b (ndCells n) 46) :
  SeqStopsK Fence.wide m Tryz.prog 99 #[.pointer (some ⟨b,0,none⟩)] encE AnyW (fun xs => xs = n.ents) (fun pre => pre <+: n.ents) 8 w := by
 intro l J Jx W hW _ _ hY h0
 have hB : Blk W b (ndCells n) 46 := (hW.block b hb.lt).trans hb
 have c4 : W.cell? ⟨b,4,none⟩ = some (.int .u64 n.fi) := by rw [hB.cell,ndCells_4]
 have cp := Lib.hid (show ∀ j v,(ptrsA n)[j]? = some v -> W.cell? ⟨b,13 + j,none⟩ = some v from fun j v hv => by
  have hj : j < 8 := by
   have := (Array.getElem?_eq_some_iff.1 hv).1
   rwa [ptrsA_size] at this
  rw [ptrsA_get n j hj] at hv
  rw [hB.cell,ndCells_p n j hj,hv])
 have h8 : (Tryz.prog.info? 44).map (·.size) = some (ptrsA n).size := by rw [ptrsA_size];kernel_rfl
 have H8 := Lib.hid h8
 clear h8 hB hb hW
 refine callsIn_of_wp Tryz.func99 rfl trivial ?_ rfl
 simp only [Tryz.ntmps99,List.size_toArray,List.length_cons,List.length_nil,Nat.reduceAdd,Nat.reduceSub,Array.replicate_succ,Array.replicate_zero,List.push_toArray,List.append_toArray,List.nil_append,List.cons_append]
 gi_wp2_with (with_reducible refine wpListIn_load_part (o := ⟨some 9,_,_,_,_,_⟩) rfl 44 _ rfl b 13 rfl (ptrsA n) _ cp.out Tryz.underlying44 rfl H8.out ?_)
 gi_loopw [3,10] (fun av iv wr => ∃ k : Nat,k <= n.len /\ iv = .int .i64 k /\ av = .int .u64 (n.ahead k) /\ J (n.ents.take k) wr) (fun _ iv _ => 9 - (intOf iv).toNat)
 case atStart => exact ⟨0,Nat.zero_le _,rfl,rfl,h0⟩
 case round =>
  obtain ⟨k,hk,rfl,rfl,hJ⟩ := hrel
  have hl8 := n.len_le
  have HP := Lib.hid (ptrsA_get n)
  by_cases hk8 : k < 8
  ·have hix := HP.out k hk8
   by_cases hz : n.p k = 0
   ·have hkl : k = n.len := by
     rcases Nat.lt_or_ge k n.len with h | h
     ·exact absurd hz (n.p_lt k h)
     ·omega
    have hJ' : J n.ents wr := by rw [<- ents_all,<- hkl];exact hJ
    have HJ := Lib.hid hJ'
    clear hkl hJ' hJ
    rw [hz] at hix
    have HX := Lib.hid hix
    clear hz hix
    gi_wp2_with (with_reducible refine wpListIn_index_arr (o := ⟨some 13,_,_,_,_,_⟩) rfl 44 39 8 _ _ rfl (ptrsA n) .i64 k (.int .u64 0) rfl rfl Tryz.underlying44 (Tryz.sizeOf39 _) (Tryz.isAgg39 _) hk8 HX.out ?_)
    refine ⟨fun _ h => (by cases h),?_⟩
    gi_wp2
    refine bodyPost_ret (results_none rfl _ _ _) rfl ?_
    exact ⟨⟨_,rfl⟩,.inl ⟨_,rfl,HJ.out⟩⟩
   ·have hkl : k < n.len := by
     rcases Nat.lt_or_ge k n.len with h | h
     ·exact h
     ·exact absurd (by rw [show k = n.len by omega] at hk8 ⊢;exact n.p_len hk8) hz
    obtain ⟨fn,tmps,assign,body,hy,hR⟩ := hY _ ((k : Int),n.p k != n.ahead k) wr hJ (by rw [List.length_take];omega)
    rw [ents_take n k hkl] at hR
    dsimp only [encE] at hy
    have hpre := Lib.hid (show n.ents.take (k + 1) <+: n.ents from List.take_prefix _ _)
    obtain ⟨y,hyd⟩ : ∃ y,y = n.p k := ⟨_,rfl⟩
    have hyn : Hid (Value.int .u64 (n.ahead (k + 1)) = .int .u64 y) := by rw [hyd];exact rfl
    rw [<- hyd] at hz hix hy
    have hz' : (y == 0) = false := by simpa using hz
    have HX := Lib.hid hix
    clear hyd hz hix hJ
    gi_wp2_with (with_reducible refine wpListIn_index_arr (o := ⟨some 13,_,_,_,_,_⟩) rfl 44 39 8 _ _ rfl (ptrsA n) .i64 k (.int .u64 y) rfl rfl Tryz.underlying44 (Tryz.sizeOf39 _) (Tryz.isAgg39 _) hk8 HX.out ?_)
    refine hR.mono ?_
    rintro e W3 (⟨rfl,hJ3,_⟩ | ⟨rfl,hJx3⟩)
    ·gi_wp2
     go_roundw
     case rel => exact ⟨k + 1,by omega,by go_num,hyn.out.symm,hJ3⟩
     case measure => simp [intOf];omega
    ·gi_wp2
     refine bodyPost_ret (results_none rfl _ _ _) rfl ?_
     exact ⟨⟨_,rfl⟩,.inr ⟨_,hpre.out,hJx3⟩⟩
  ·have hkl : k = n.len := by omega
   have hJ' : J n.ents wr := by rw [<- ents_all,<- hkl];exact hJ
   have HJ := Lib.hid hJ'
   clear hkl hJ' hJ
   gi_wp2
   go_end0
   exact ⟨⟨_,rfl⟩,.inl ⟨_,rfl,HJ.out⟩⟩
end Go.Proofs.YtodgfbjjjgohgaaGreat
namespace Go.Proofs.YtodgfbjjjgohgaaGreat
open Go.RowKit Go.Shelf
attribute [local go_sem] Oper.semAt_some

theorem entries_calls (m : Nat) (n : Nd) (w : World) :
  CallsIn Fence.wide m Tryz.prog 97 #[.agg (ndCells n)] w fun e w' => e = .returned (.func (.func 99) #[] #[.pointer (some ⟨w.heap.size,0,none⟩)]) /\ w' = w.alloc (.cells (ndCells n) 46) := by
 refine callsIn_wide.2 ?_
 go_enter Tryz.func97,Tryz.ntmps97
 go_wp2
 go_ret
 exact ⟨rfl,rfl⟩

theorem anyK_t {A B C : World} (_ : AnyW A B) (_ : AnyW B C) : AnyW A C := trivial
theorem anyK_b {w : World} (W : World) (l : Nat) (o o' : Obj) (_ : w.heap.size <= l) (_ : W.heap[l]? = some o) (_ : o.isCells = false) (_ : o.isWalk = false) : AnyW W (W.putObj l o') := trivial

end Go.Proofs.YtodgfbjjjgohgaaGreat
namespace Go.Proofs.YtodgfbjjjgohgaaGreat
open Go.RowKit Go.Shelf
attribute [local go_sem] Oper.semAt_some

def plc (pre : List (Int × Bool)) : List Int := (pre.filter (·.2)).map (·.1)
theorem plc_true (pre : List (Int × Bool)) (x : Int × Bool) (h : x.2 = true) : plc (pre ++ [x]) = plc pre ++ [x.1] := by simp [plc,h]
theorem plc_false (pre : List (Int × Bool)) (x : Int × Bool) (h : x.2 = false) : plc (pre ++ [x]) = plc pre := by simp [plc,h]
theorem plc_len (pre : List (Int × Bool)) : (plc pre).length <= pre.length := by
 simp only [plc,List.length_map];exact List.length_filter_le _ _
def Nd.places (n : Nd) : List Int := plc n.ents

theorem Tryz.info3 : (Tryz.prog.info? 3).map (fun i => (i.zero,i.size,i.bytes)) = some (some (.int .i64 0),1,8) := by kernel_rfl

set_option maxRecDepth 100000 in
set_option maxHeartbeats 2000000 in
theorem places_in (n : Nd) (w : World) :
  CallsIn Fence.wide 9 Tryz.prog 93 #[.agg (ndCells n)] w fun e W' => ∃ v,e = .returned v /\ W'.ownsRow w.heap.size 3 1 v n.places.length (n.places.map (Value.int .i64)) /\ Below w.heap.size w W' := by
 obtain ⟨i0,hi,hz0,hz1,hz2⟩ := info_parts Tryz.info3
 refine callsIn_of_wp_marks Tryz.func93 rfl trivial ?_ rfl
 simp only [Tryz.ntmps93,List.size_toArray,List.length_cons,List.length_nil,Nat.reduceAdd,Nat.reduceSub,Array.replicate_succ,Array.replicate_zero,List.push_toArray,List.append_toArray,List.nil_append,List.cons_append]
 have hb0 := Blk.new w (ndCells n) 46
 have hi27 : (Tryz.prog.info? 46).map (·.size) = some (ndCells n).size := by rw [ndCells_size];kernel_rfl
 have HI := Lib.hid hi27
 clear hi27
 have HL := Lib.hid (show ∀ j v,(ndCells n)[j]? = some v -> ((w.alloc (.cells (ndCells n) 46)).alloc (.cells #[.slice none 0 0] 51)).cell? ⟨w.heap.size,0 + j,none⟩ = some v from fun j v hv => by
  rw [Nat.zero_add,(hb0.alloc _).cell];exact hv)
 clear hb0
 gi_wp2_with (first
  | (with_reducible refine wpListIn_load_part (o := ⟨some 5,_,_,_,_,_⟩) rfl 46 _ rfl w.heap.size 0 rfl (ndCells n) _ HL.out Tryz.underlying46 rfl HI.out ?_)
  | (refine ⟨trivial,?_⟩;gi_at_call 97;refine (entries_calls _ n _).mono ?_;rintro e w' ⟨rfl,rfl⟩))
 obtain ⟨w3,hw3⟩ : ∃ w3,w3 = ((w.alloc (.cells (ndCells n) 46)).alloc (.cells #[.slice none 0 0] 51)).alloc (.cells (ndCells n) 46) := ⟨_,rfl⟩
 have b3 : Blk w3 (w.heap.size + 2) (ndCells n) 46 := by
  rw [hw3];have := Blk.new ((w.alloc (.cells (ndCells n) 46)).alloc (.cells #[.slice none 0 0] 51)) (ndCells n) 46;simpa using this
 have k3 : Blk w3 (w.heap.size + 1) #[.slice none 0 0] 51 := by
  rw [hw3];have := (Blk.new (w.alloc (.cells (ndCells n) 46)) #[.slice none 0 0] 51).alloc (.cells (ndCells n) 46);simpa using this
 have hB0 : Below w.heap.size w w3 := by
  rw [hw3];exact (((Below.refl _ w).alloc (Nat.le_refl _) _).alloc (by simp) _).alloc (by simp;omega) _
 have hs3 : w3.heap.size = w.heap.size + 3 := by rw [hw3];simp
 rw [<- hw3]
 clear hw3 HL
 refine wpIn_rangeFunc_ownF rfl (by omega) (gf := 99) (lb := #[.pointer (some ⟨w.heap.size + 2,0,none⟩)]) (by simp [Act.eval]) trivial (enters_of Tryz.func99 (by kernel_rfl) rfl)
  (entries_stops 8 (by omega) n (w.heap.size + 2) w3 b3) anyK_t anyK_b (Below.refl _ _) (fun _ => rfl)
  (fun pre W => (∃ v,Blk W (w.heap.size + 1) #[v] 51 /\ W.ownsRow (w.heap.size + 3) 3 1 v (plc pre).length ((plc pre).map (Value.int .i64))) /\ w.heap.size + 3 <= W.heap.size /\ Below w.heap.size w W)
  (fun _ _ _ => False)
  (fun s A B row hs hg hr => by
   obtain ⟨⟨v,h1,h2⟩,h3,h4⟩ := hs
   exact ⟨⟨v,h1.put hg (fun r e => (hr r e).2),own_put h2 hg (fun r e => (hr r e).2)⟩,Nat.le_trans h3 hg.size,h4.grown hg h4.size (fun r e => by have := (hr r e).1;omega)⟩)
  (fun _ _ _ _ _ hs _ _ => hs)
  ⟨⟨_,k3,World.ownsRow_nil _ _ _ _⟩,by omega,hB0⟩
  (fun x => { tmps := #[.agg (ndCells n),.pointer (some ⟨w.heap.size,0,none⟩),.pointer (some ⟨w.heap.size + 1,0,none⟩),.int .i64 x.1,.bool x.2,.agg (ndCells n),.func (.func 99) #[] #[.pointer (some ⟨w.heap.size + 2,0,none⟩)],.int .i64 x.1,.bool x.2,undef,undef,undef,undef,undef,undef],defers := [] }) ?assign ?body ?done ?stop
 case assign =>
  intro l x W K hK
  simp [encE]
  gi_wp2
  exact hK
 case body =>
  rintro l pre x W ⟨⟨v,hk,hown⟩,hs,hB⟩ hlen
  have hpl := plc_len pre
  obtain ⟨x1,x2⟩ := x
  have hc := hk.cell 0
  have hf := hk.frozen 0
  rw [show (#[v] : Array Value)[0]? = some v from rfl] at hc
  cases x2
  ·have hp := Lib.hid (plc_false pre (x1,false) rfl)
   gi_wp2
   exact ⟨KeepsOthers.refl _,trivial,by rw [hp.out];exact ⟨v,hk,hown⟩,hs,hB⟩
  ·have hp := Lib.hid (plc_true pre (x1,true) rfl)
   gi_wp2_with (gi_at_builtin;refine wpListIn_append_own _ rfl _ _ 51 rfl (w.heap.size + 3) 3 i0 (.int .i64 0) 1 8 Tryz.underlying51 hi hz0 hz1 hz2 rfl (by decide) _ _ _ rfl (hown.alloc _) ⟨W.heap.size,0,none⟩ 1 1 [.int .i64 x1] rfl rfl (cell_one_new _ _ _) (ints_oneCell .i64 [x1]) (by unfold maxLen;omega) (by omega) (by simp;omega) ?_)
   intro v' w1 hown' hgrow hnil
   obtain ⟨g,cap,rfl,hg1,hg2,hg3,hg4,hg5,hg6,hg7⟩ := own_shape hown' (by omega)
   have hk1 := (hk.alloc (.cells #[.int .i64 x1] 3)).grown hgrow (fun e => by have := own_base hown _ e.symm;omega)
   have hc1 := hk1.cell 0
   rw [show (#[v] : Array Value)[0]? = some v from rfl] at hc1
   have hf1 := hk1.frozen 0
   have HB1 := Lib.hid ((hB.alloc hB.size (.cells #[.int .i64 x1] 3)).grown hgrow (by simp;have := hB.size;omega) (fun r e => by have := own_base hown _ e;omega))
   have HK1 := Lib.hid hk1
   have HO := Lib.hid hown'
   have HS := Lib.hid (show w.heap.size + 3 <= w1.heap.size by have := hgrow.size;simp at this;omega)
   have HKo := Lib.hid ((KeepsOthers.alloc W (.cells #[.int .i64 x1] 3)).trans (KeepsOthers.of_grownBy hgrow (fun j o e ho => by obtain ⟨_,_,_,rfl⟩ := own_cells (hown.alloc (.cells #[.int .i64 x1] 3)) j o e ho;rfl)))
   clear hk1 hown' hk hown hgrow hnil hg5 hg6 hg7 hB hs
   gi_wp2
   refine ⟨HKo.out.trans (KeepsOthers.setCell _ _ _),trivial,⟨_,by simpa using HK1.out.set 0 (.slice (some ⟨g,0,none⟩) ((plc pre).length + 1) cap),?_⟩,by simpa [World.setCell] using HS.out,HB1.out.setCell (p := ⟨w.heap.size + 1,0,none⟩) (by simp) _⟩
   rw [hp.out]
   have := ownsRow_setCell_below HO.out (a := ⟨w.heap.size + 1,0,none⟩) (by simp) (.slice (some ⟨g,0,none⟩) ((plc pre).length + 1) cap)
   simpa using this
 case done =>
  rintro D xs W hD rfl ⟨⟨v,hk,hown⟩,hs,hB⟩ hK
  obtain ⟨a,lw,cw,rfl⟩ := own_slice hown
  have hc := hk.cell 0
  rw [show (#[Value.slice a lw cw] : Array Value)[0]? = some (.slice a lw cw) from rfl] at hc
  have hf := hk.frozen 0
  have hsz := hB.size
  have hKs := (KeepsOthers.setCell W ⟨w.heap.size + 1,0,none⟩ (.slice a lw cw)).same D _ hK rfl
  have HB := Lib.hid (hB.setCell (p := ⟨w.heap.size + 1,0,none⟩) (by simp) (.slice a lw cw))
  have HK1 := Lib.hid (hk.set 0 (.slice a lw cw))
  have HO := Lib.hid (ownsRow_setCell_below hown (a := ⟨w.heap.size + 1,0,none⟩) (by simp) (.slice a lw cw))
  clear hk hB hown hs
  gi_wp2
  refine ⟨by simp,.inl ⟨_,_,rfl,run_takeDeferred hKs,?_⟩⟩
  have hc5 : ((W.setCell ⟨w.heap.size + 1,0,none⟩ (.slice a lw cw)).putObj D (.deferred none)).cell? ⟨w.heap.size + 1,0,none⟩ = some (.slice a lw cw) := by
   have := HK1.out.grown (grownBy_putObj' _ D (.deferred none)) (fun e => by
    have e1 := Option.some.inj e
    omega)
   rw [this.cell];rfl
  exact ⟨.slice a lw cw,by simp [results,Tryz.results93,go_sem,hc5],_,rfl,own_mono (own_put HO.out (grownBy_putObj' _ D (.deferred none)) (fun r e => by cases e;exact ⟨_,hKs,rfl⟩)) (by omega),HB.out.trans (belowK_b (w := w) (Nat.le_refl _) _ D _ _ (by omega) hKs rfl rfl)⟩
 case stop =>
  rintro D c pre W _ _ h _
  exact h.elim

theorem places_calls (n : Nd) (w : World) : Calls Tryz.prog 93 #[.agg (ndCells n)] w fun e W' => ∃ v,e = .returned v /\ W'.ownsRow w.heap.size 3 1 v n.places.length (n.places.map (Value.int .i64)) /\ Below w.heap.size w W' := callsIn_wide.1 (places_in n w)
end Go.Proofs.YtodgfbjjjgohgaaGreat
namespace Go.Proofs.YtodgfbjjjgohgaaGreat
open Go.RowKit

def plN (n : Nd) : List Nat := (List.range n.len).filter (fun i => n.p i != n.ahead i)
theorem places_eq (n : Nd) : n.places = (plN n).map (fun (i : Nat) => (i : Int)) := by
 unfold Nd.places plc Nd.ents plN
 rw [List.filter_map,List.map_map]
 rfl
theorem plN_len (n : Nd) : (plN n).length <= 8 := by
 have h1 : (plN n).length <= (List.range n.len).length := List.length_filter_le _ _
 have := n.len_le
 simp at h1;omega
def Nd.valid (n : Nd) : List (Int × Int) := (plN n).map (fun i => (n.k i,n.p i))
end Go.Proofs.YtodgfbjjjgohgaaGreat
namespace Go.Proofs.YtodgfbjjjgohgaaGreat
open Go.RowKit

theorem ndLoad {w : World} {b : Nat} {n : Nd} (hb : Blk w b (ndCells n) 46) : ∀ j v,(ndCells n)[j]? = some v -> w.cell? ⟨b,0 + j,none⟩ = some v := by
 intro j v hv;rw [Nat.zero_add,hb.cell];exact hv
theorem info27 (n : Nd) : (Tryz.prog.info? 46).map (·.size) = some (ndCells n).size := by rw [ndCells_size];kernel_rfl
theorem Blk.below {w w' : World} {B b : Nat} {C : Array Value} {t : TypeId} (h : Blk w b C t) (hB : Below B w w') (hb : b < B) : Blk w' b C t := (hB.block b hb).trans h
def Nd.ok (n : Nd) (i : Nat) : Bool := n.p i != n.ahead i

end Go.Proofs.YtodgfbjjjgohgaaGreat
namespace Go.Proofs.YtodgfbjjjgohgaaGreat
open Go.RowKit

/-! . -/
def lastF (t : Nat -> Bool) : Nat -> Int
 | 0 => -1
 | k + 1 => if t k = true then (k : Int) else lastF t k
def Nd.last (n : Nd) (key : Int) : Int := lastF (fun i => n.ok i && decide (n.k i <= key)) n.len
end Go.Proofs.YtodgfbjjjgohgaaGreat
namespace Go.Proofs.YtodgfbjjjgohgaaGreat
open Go.RowKit

end Go.Proofs.YtodgfbjjjgohgaaGreat
namespace Go.Proofs.YtodgfbjjjgohgaaGreat
open Go.RowKit

def eK (l : List (Int × Int)) (i : Nat) : Int := (l.getD i (0,0)).1
def eP (l : List (Int × Int)) (i : Nat) : Int := (l.getD i (0,0)).2
def dupAt (l : List (Int × Int)) (i : Nat) : Bool := (List.range i).any (fun j => eP l j == eP l i)
def badAt (lv lo fi : Int) (l : List (Int × Int)) (i : Nat) : Bool :=
 decide (eK l i < lo) || (decide (0 < lv) && (eK l i == lo)) || (decide (0 < i) && decide (eK l i <= eK l (i - 1))) || (eP l i == fi) || dupAt l i
def riseB (lv lo fi : Int) (l : List (Int × Int)) : Bool := (List.range l.length).all (fun i => !badAt lv lo fi l i)

def EntsAt (w : World) (g o : Nat) (l : List (Int × Int)) : Prop :=
 ∀ i,i < l.length -> w.cell? ⟨g,o + i * 2,none⟩ = some (.int .u64 (eK l i)) /\ w.cell? ⟨g,o + i * 2 + 1,none⟩ = some (.int .u64 (eP l i))

theorem EntsAt.lt {w : World} {g o : Nat} {l : List (Int × Int)} (h : EntsAt w g o l) (hn : 0 < l.length) : g < w.heap.size := World.block_lt_of_cell? w ⟨g,o + 0 * 2,none⟩ (h 0 hn).1
theorem ecells_get (l : List (Int × Int)) : ∀ i,i < l.length -> (ecells l)[i * 2]? = some (.int .u64 (eK l i)) /\ (ecells l)[i * 2 + 1]? = some (.int .u64 (eP l i)) := by
 induction l with
 | nil => intro i h;simp at h
 | cons x r ih =>
  intro i h
  cases i with
  | zero => simp [ecells,eK,eP]
  | succ i =>
   have := ih i (by simpa using h)
   have e : ecells (x :: r) = .int .u64 x.1 :: .int .u64 x.2 :: ecells r := by simp [ecells]
   rw [e,show (i + 1) * 2 = i * 2 + 1 + 1 by omega]
   simpa [eK,eP] using this
end Go.Proofs.YtodgfbjjjgohgaaGreat
namespace Go.Proofs.YtodgfbjjjgohgaaGreat
open Go.RowKit

def Nd.mayB (n : Nd) (high : Int) (has : Bool) : Bool :=
 !(decide (n.lv < 0) || decide (15 < n.lv) || (n.fi == 0) || (has && decide (high <= n.lo))) && (decide (n.len <= n.valid.length + 1) && riseB n.lv n.lo n.fi n.valid)

end Go.Proofs.YtodgfbjjjgohgaaGreat
namespace Go.Proofs.YtodgfbjjjgohgaaGreat
open Go.RowKit

end Go.Proofs.YtodgfbjjjgohgaaGreat
namespace Go.Proofs.YtodgfbjjjgohgaaGreat
open Go.RowKit

end Go.Proofs.YtodgfbjjjgohgaaGreat
namespace Go.Proofs.YtodgfbjjjgohgaaGreat
open Go.RowKit

end Go.Proofs.YtodgfbjjjgohgaaGreat
namespace Go.Proofs.YtodgfbjjjgohgaaGreat
open Go.RowKit

end Go.Proofs.YtodgfbjjjgohgaaGreat
namespace Go.Proofs.YtodgfbjjjgohgaaGreat
open Go.RowKit

/-! . -/
theorem plN_mem (n : Nd) (i : Nat) : i ∈ plN n ↔ i < n.len /\ n.ok i = true := by
 unfold plN Nd.ok
 rw [List.mem_filter,List.mem_range]
def plA (n : Nd) (j : Nat) : Nat := (plN n).getD j 0
theorem plA_mem (n : Nd) (j : Nat) (h : j < (plN n).length) : plA n j ∈ plN n := by unfold plA;simp [h]
theorem plA_lt8 (n : Nd) (j : Nat) (h : j < (plN n).length) : plA n j < 8 := by
 have := (plN_mem n _).1 (plA_mem n j h)
 have := n.len_le
 omega
def lastL (n : Nd) (key : Int) (L : List Nat) : Int := L.foldl (fun a i => if n.k i <= key then (i : Int) else a) (-1)
theorem lastL_snoc (n : Nd) (key : Int) (L : List Nat) (i : Nat) : lastL n key (L ++ [i]) = if n.k i <= key then (i : Int) else lastL n key L := by simp [lastL]
theorem lastL_places (n : Nd) (key : Int) : lastL n key (plN n) = n.last key := by
 unfold plN Nd.last
 have : ∀ m,lastL n key ((List.range m).filter (fun i => n.p i != n.ahead i)) = lastF (fun i => n.ok i && decide (n.k i <= key)) m := by
  intro m
  induction m with
  | zero => rfl
  | succ m ih =>
   rw [List.range_succ,List.filter_append]
   unfold lastF
   cases hok : n.ok m with
   | false =>
    have : (n.p m != n.ahead m) = false := hok
    simp [this,ih]
   | true =>
    have : (n.p m != n.ahead m) = true := hok
    rw [List.filter_cons,if_pos this,List.filter_nil,lastL_snoc,ih]
    by_cases hk : n.k m <= key <;> simp [hk]
 exact this n.len
theorem last_ge (n : Nd) (key : Int) : -1 <= n.last key /\ n.last key < n.len := by
 unfold Nd.last
 have : ∀ (t : Nat -> Bool) m,-1 <= lastF t m /\ lastF t m < (m : Int) := by
  intro t m
  induction m with
  | zero => exact ⟨by simp [lastF],by simp [lastF]⟩
  | succ m ih => unfold lastF;split <;> omega
 exact this _ _
theorem lastL_lt (n : Nd) (key : Int) (L : List Nat) (h : ∀ i ∈ L,i < 8) : -1 <= lastL n key L /\ lastL n key L < 8 := by
 unfold lastL
 have : ∀ (L : List Nat) (a : Int),(∀ i ∈ L,i < 8) -> -1 <= a -> a < 8 -> -1 <= L.foldl (fun a i => if n.k i <= key then (i : Int) else a) a /\ L.foldl (fun a i => if n.k i <= key then (i : Int) else a) a < 8 := by
  intro L
  induction L with
  | nil => intro a _ h1 h2;exact ⟨h1,h2⟩
  | cons x r ih =>
   intro a hl h1 h2
   have hx := hl x (by simp)
   rw [List.foldl_cons]
   refine ih _ (fun i hi => hl i (by simp [hi])) ?_ ?_ <;> split <;> omega
 exact this L (-1) h (by decide) (by decide)
theorem plN_take (n : Nd) (k : Nat) (h : k < (plN n).length) : (plN n).take (k + 1) = (plN n).take k ++ [plA n k] := by
 rw [List.take_succ_eq_append_getElem h]
 unfold plA
 simp [h]

/-! . -/
def PlAt (w : World) (g : Nat) (n : Nd) : Prop := ∀ j,j < (plN n).length -> w.cell? ⟨g,j,none⟩ = some (.int .i64 (plA n j : Nat))
theorem own_places {w : World} {base : Nat} {e : TypeId} {v : Value} {n : Nd} (h : w.ownsRow base e 1 v n.places.length (n.places.map (Value.int .i64))) :
  ∃ a c,v = .slice a (plN n).length c /\ (0 < (plN n).length -> ∃ g,a = some ⟨g,0,none⟩ /\ base <= g /\ g < w.heap.size /\ PlAt w g n) := by
 have hl : n.places.length = (plN n).length := by rw [places_eq,List.length_map]
 obtain ⟨a,m,c,rfl⟩ := own_slice h
 have hm : m = n.places.length := own_len h
 refine ⟨a,c,by rw [hm,hl],fun hp => ?_⟩
 obtain ⟨g,cap,e,hb,hg,_,_,_,hc,_⟩ := own_shape h (by omega)
 cases e
 refine ⟨g,rfl,hb,hg,fun j hj => ?_⟩
 rw [hc j (by omega),places_eq]
 unfold plA
 simp [hj]

set_option maxRecDepth 100000 in
set_option maxHeartbeats 1600000 in
theorem nlast_calls (n : Nd) (key : Int) (w : World) :
  Calls Tryz.prog 90 #[.agg (ndCells n),.int .u64 key] w fun e W' => e = .returned (.int .i64 (n.last key)) /\ Below w.heap.size w W' := by
 have HI := Lib.hid (info27 n)
 have H8 := plN_len n
 have hk1 : Blk (w.alloc (.cells (ndCells n) 46)) w.heap.size (ndCells n) 46 := Blk.new w _ _
 have HK1 := Lib.hid hk1
 have HL := Lib.hid (ndLoad hk1)
 clear hk1
 go_enter Tryz.func90,Tryz.ntmps90
 go_wp2_with (with_reducible refine wpList_load_part (o := ⟨some 8,_,_,_,_,_⟩) rfl 46 _ rfl w.heap.size 0 rfl (ndCells n) _ HL.out Tryz.underlying46 rfl HI.out ?_)
 refine (places_calls n _).mono ?_
 rintro e w1 ⟨v,rfl,hv,hB⟩
 obtain ⟨a,c,rfl,hA⟩ := own_places hv
 have HA := Lib.hid hA
 have HBW := Lib.hid (((Below.refl w.heap.size w).alloc (Nat.le_refl _) (.cells (ndCells n) 46)).trans (hB.mono (by simp <;> omega)))
 have HB1 := Lib.hid (HK1.out.below hB (by simp <;> omega))
 have HLL := Lib.hid (lastL_places n key)
 have HPL := Lib.hid (fun k h => plN_take n k h)
 have HP8 := Lib.hid (fun k h => plA_lt8 n k h)
 have HLT := Lib.hid (fun k => lastL_lt n key ((plN n).take k) (fun i hi => by
  have := (plN_mem n i).1 (List.mem_of_mem_take hi)
  have := n.len_le
  omega))
 have HTL := Lib.hid (List.take_length (l := plN n))
 clear hv hB hA
 obtain ⟨m,hm⟩ : ∃ m,(plN n).length = m := ⟨_,rfl⟩
 rw [hm] at HA H8 HPL HP8 HTL ⊢
 have HM := Lib.hid hm
 clear hm
 go_wp2_with (fail)
 go_loop [5,11] (fun av iv => ∃ k : Nat,k <= m /\ iv = .int .i64 k /\ av = .int .i64 (lastL n key ((plN n).take k))) (fun _ iv => m - (intOf iv).toNat)
 case atStart => exact ⟨0,Nat.zero_le _,rfl,rfl⟩
 case round =>
  obtain ⟨k,hk,rfl,rfl⟩ := hrel
  by_cases hlt : k < m
  ·obtain ⟨g,rfl,_,hg,hp⟩ := HA.out (by omega)
   have c1 := hp k (by rw [HM.out];exact hlt)
   have hpk := HP8.out k hlt
   have HS := Lib.hid (HPL.out k hlt)
   have c2 : w1.cell? ⟨w.heap.size,5 + plA n k,none⟩ = some (.int .u64 (n.k (plA n k))) := by rw [HB1.out.cell,ndCells_k n _ hpk]
   have HSn := Lib.hid (lastL_snoc n key ((plN n).take k) (plA n k))
   obtain ⟨x,hx⟩ : ∃ x,n.k (plA n k) = x := ⟨_,rfl⟩
   rw [hx] at c2 HSn
   generalize plA n k = pk at *
   have q1 : (k : Int) < (m : Int) := by omega
   have q2 : (0 : Int) <= (k : Int) := by omega
   have q3 : ((k : Int)).toNat = k := by omega
   have q4 : (pk : Int) < 8 := by omega
   have q5 : (0 : Int) <= (pk : Int) := by omega
   have q6 : ((pk : Int)).toNat = pk := by omega
   clear hp hx
   by_cases hle : x <= key
   ·have HN : Hid (lastL n key ((plN n).take (k + 1)) = (pk : Int)) := Lib.hid (by rw [HS.out,HSn.out,if_pos hle])
    clear hpk
    go_wp2_with (fail)
    go_round
    case rel => exact ⟨k + 1,by omega,by go_num,by rw [HN.out]⟩
    case measure => simp [intOf];omega
   ·have HN : Hid (lastL n key ((plN n).take (k + 1)) = lastL n key ((plN n).take k)) := Lib.hid (by rw [HS.out,HSn.out,if_neg hle])
    clear hpk
    go_wp2_with (fail)
    go_round
    case rel => exact ⟨k + 1,by omega,by go_num,by rw [HN.out]⟩
    case measure => simp [intOf];omega
  ·have hkm : k = m := by omega
   subst hkm
   go_wp2_with (fail)
   go_ret
   exact ⟨congrArg (fun z => Ending.returned (.int .i64 z)) ((congrArg (lastL n key) HTL.out).trans HLL.out),HBW.out⟩

end Go.Proofs.YtodgfbjjjgohgaaGreat
