/-
 node.Places, node.Invalid: contracts.
-/
import Derived.Test.YtodgfbjjjgohgaaGreatNdH
import Derived.RangeFuncNested
import Derived.RangeFuncBound
import Derived.RangeFuncCalls
import Derived.RangeFuncLeaves
import Derived.RangeFuncBox
import Derived.Shelf.Abstract
import Derived.Shelf.RegionOpen
import Derived.OwnWalkIn
import Derived.TacticsInMore
import Derived.LoopNIn
import Derived.LoopIn
import Derived.Outline
import Derived.Maps.AppendAt
namespace Go.Proofs.YtodgfbjjjgohgaaGreat
open Go.RowKit Go.Shelf
attribute [local go_sem] Oper.semAt_some

def Nd.ahead (n : Nd) : Nat -> Int
 | 0 => n.fi
 | i + 1 => n.p i
def Nd.lenFrom (n : Nd) : Nat -> Nat -> Nat
 | 0, _ => 0
 | d + 1, i => if n.p i = 0 then 0 else n.lenFrom d (i + 1) + 1
def Nd.len (n : Nd) : Nat := n.lenFrom 8 0
def Nd.ents (n : Nd) : List (Int × Bool) := (List.range n.len).map (fun (i : Nat) => ((i : Int), n.p i != n.ahead i))

theorem lenFrom_le (n : Nd) : ∀ d i, n.lenFrom d i <= d := by
 intro d
 induction d with
 | zero => intro i; simp [Nd.lenFrom]
 | succ d ih => intro i; unfold Nd.lenFrom; split; omega; have := ih (i + 1); omega
theorem Nd.len_le (n : Nd) : n.len <= 8 := lenFrom_le n 8 0
theorem lenFrom_lt (n : Nd) : ∀ d i j, i <= j -> j < i + n.lenFrom d i -> n.p j ≠ 0 := by
 intro d
 induction d with
 | zero => intro i j h1 h2; simp [Nd.lenFrom] at h2; omega
 | succ d ih =>
  intro i j h1 h2
  unfold Nd.lenFrom at h2
  split at h2
  ·omega
  ·rename_i hp
   by_cases e : j = i
   ·subst e; exact hp
   ·exact ih (i + 1) j (by omega) (by omega)
theorem lenFrom_end (n : Nd) : ∀ d i, n.lenFrom d i < d -> n.p (i + n.lenFrom d i) = 0 := by
 intro d
 induction d with
 | zero => intro i h; omega
 | succ d ih =>
  intro i h
  unfold Nd.lenFrom at h ⊢
  split
  ·rename_i hp; simpa using hp
  ·rename_i hp
   rw [if_neg hp] at h
   have := ih (i + 1) (by omega)
   rw [show i + (n.lenFrom d (i + 1) + 1) = i + 1 + n.lenFrom d (i + 1) by omega]
   exact this
theorem Nd.p_lt (n : Nd) (j : Nat) (h : j < n.len) : n.p j ≠ 0 := lenFrom_lt n 8 0 j (by omega) (by unfold Nd.len at h; omega)
theorem Nd.p_len (n : Nd) (h : n.len < 8) : n.p n.len = 0 := by
 have := lenFrom_end n 8 0 h
 simpa [Nd.len] using this

theorem ents_len (n : Nd) : n.ents.length = n.len := by simp [Nd.ents]
theorem ents_take (n : Nd) (k : Nat) (h : k < n.len) : n.ents.take k ++ [((k : Int), n.p k != n.ahead k)] = n.ents.take (k + 1) := by
 rw [List.take_succ_eq_append_getElem (by rw [ents_len]; exact h)]
 simp [Nd.ents]
theorem ents_all (n : Nd) : n.ents.take n.len = n.ents := List.take_of_length_le (by rw [ents_len]; exact Nat.le_refl _)

def encE (x : Int × Bool) : Array Value := #[.int .i64 x.1, .bool x.2]
def AnyW : World -> World -> Prop := fun _ _ => True

set_option maxHeartbeats 1000000 in
set_option maxRecDepth 100000 in
theorem entries_stops (m : Nat) (hm : 1 <= m) (n : Nd) (b : Nat) (w : World) (hb : Blk w b (ndCells n) 46) :
  SeqStopsK Fence.wide m Tryz.prog 99 #[.pointer (some ⟨b, 0, none⟩)] encE AnyW (fun xs => xs = n.ents) (fun pre => pre <+: n.ents) 8 w := by
 intro l J Jx W hW _ _ hY h0
 have hB : Blk W b (ndCells n) 46 := (hW.block b hb.lt).trans hb
 have c4 : W.cell? ⟨b, 4, none⟩ = some (.int .u64 n.fi) := by rw [hB.cell, ndCells_4]
 have cp := Lib.hid (show ∀ j v, (ptrsA n)[j]? = some v -> W.cell? ⟨b, 13 + j, none⟩ = some v from fun j v hv => by
  have hj : j < 8 := by
   have := (Array.getElem?_eq_some_iff.1 hv).1
   rwa [ptrsA_size] at this
  rw [ptrsA_get n j hj] at hv
  rw [hB.cell, ndCells_p n j hj, hv])
 have h8 : (Tryz.prog.info? 44).map (·.size) = some (ptrsA n).size := by rw [ptrsA_size]; kernel_rfl
 have H8 := Lib.hid h8
 clear h8 hB hb hW
 refine callsIn_of_wp Tryz.func99 rfl trivial ?_ rfl
 simp only [Tryz.ntmps99, List.size_toArray, List.length_cons, List.length_nil, Nat.reduceAdd, Nat.reduceSub, Array.replicate_succ, Array.replicate_zero, List.push_toArray, List.append_toArray, List.nil_append, List.cons_append]
 gi_wp2_with (with_reducible refine wpListIn_load_part (o := ⟨some 9, _, _, _, _, _⟩) rfl 44 _ rfl b 13 rfl (ptrsA n) _ cp.out Tryz.underlying44 rfl H8.out ?_)
 gi_loopw [3, 10] (fun av iv wr => ∃ k : Nat, k <= n.len /\ iv = .int .i64 k /\ av = .int .u64 (n.ahead k) /\ J (n.ents.take k) wr) (fun _ iv _ => 9 - (intOf iv).toNat)
 case atStart => exact ⟨0, Nat.zero_le _, rfl, rfl, h0⟩
 case round =>
  obtain ⟨k, hk, rfl, rfl, hJ⟩ := hrel
  have hl8 := n.len_le
  have HP := Lib.hid (ptrsA_get n)
  by_cases hk8 : k < 8
  ·have hix := HP.out k hk8
   by_cases hz : n.p k = 0
   ·have hkl : k = n.len := by
     rcases Nat.lt_or_ge k n.len with h | h
     ·exact absurd hz (n.p_lt k h)
     ·omega
    have hJ' : J n.ents wr := by rw [<- ents_all, <- hkl]; exact hJ
    have HJ := Lib.hid hJ'
    clear hkl hJ' hJ
    rw [hz] at hix
    have HX := Lib.hid hix
    clear hz hix
    gi_wp2_with (with_reducible refine wpListIn_index_arr (o := ⟨some 13, _, _, _, _, _⟩) rfl 44 39 8 _ _ rfl (ptrsA n) .i64 k (.int .u64 0) rfl rfl Tryz.underlying44 (Tryz.sizeOf39 _) (Tryz.isAgg39 _) hk8 HX.out ?_)
    refine ⟨fun _ h => (by cases h), ?_⟩
    gi_wp2
    refine bodyPost_ret (results_none rfl _ _ _) rfl ?_
    exact ⟨⟨_, rfl⟩, .inl ⟨_, rfl, HJ.out⟩⟩
   ·have hkl : k < n.len := by
     rcases Nat.lt_or_ge k n.len with h | h
     ·exact h
     ·exact absurd (by rw [show k = n.len by omega] at hk8 ⊢; exact n.p_len hk8) hz
    obtain ⟨fn, tmps, assign, body, hy, hR⟩ := hY _ ((k : Int), n.p k != n.ahead k) wr hJ (by rw [List.length_take]; omega)
    rw [ents_take n k hkl] at hR
    dsimp only [encE] at hy
    have hpre := Lib.hid (show n.ents.take (k + 1) <+: n.ents from List.take_prefix _ _)
    obtain ⟨y, hyd⟩ : ∃ y, y = n.p k := ⟨_, rfl⟩
    have hyn : Hid (Value.int .u64 (n.ahead (k + 1)) = .int .u64 y) := by rw [hyd]; exact rfl
    rw [<- hyd] at hz hix hy
    have hz' : (y == 0) = false := by simpa using hz
    have HX := Lib.hid hix
    clear hyd hz hix hJ
    gi_wp2_with (with_reducible refine wpListIn_index_arr (o := ⟨some 13, _, _, _, _, _⟩) rfl 44 39 8 _ _ rfl (ptrsA n) .i64 k (.int .u64 y) rfl rfl Tryz.underlying44 (Tryz.sizeOf39 _) (Tryz.isAgg39 _) hk8 HX.out ?_)
    refine hR.mono ?_
    rintro e W3 (⟨rfl, hJ3, _⟩ | ⟨rfl, hJx3⟩)
    ·gi_wp2
     go_roundw
     case rel => exact ⟨k + 1, by omega, by go_num, hyn.out.symm, hJ3⟩
     case measure => simp [intOf]; omega
    ·gi_wp2
     refine bodyPost_ret (results_none rfl _ _ _) rfl ?_
     exact ⟨⟨_, rfl⟩, .inr ⟨_, hpre.out, hJx3⟩⟩
  ·have hkl : k = n.len := by omega
   have hJ' : J n.ents wr := by rw [<- ents_all, <- hkl]; exact hJ
   have HJ := Lib.hid hJ'
   clear hkl hJ' hJ
   gi_wp2
   go_end0
   exact ⟨⟨_, rfl⟩, .inl ⟨_, rfl, HJ.out⟩⟩
end Go.Proofs.YtodgfbjjjgohgaaGreat
namespace Go.Proofs.YtodgfbjjjgohgaaGreat
open Go.RowKit Go.Shelf
attribute [local go_sem] Oper.semAt_some

theorem entries_calls (m : Nat) (n : Nd) (w : World) :
  CallsIn Fence.wide m Tryz.prog 97 #[.agg (ndCells n)] w fun e w' => e = .returned (.func (.func 99) #[] #[.pointer (some ⟨w.heap.size, 0, none⟩)]) /\ w' = w.alloc (.cells (ndCells n) 46) := by
 refine callsIn_wide.2 ?_
 go_enter Tryz.func97, Tryz.ntmps97
 go_wp2
 go_ret
 exact ⟨rfl, rfl⟩

theorem anyK_t {A B C : World} (_ : AnyW A B) (_ : AnyW B C) : AnyW A C := trivial
theorem anyK_b {w : World} (W : World) (l : Nat) (o o' : Obj) (_ : w.heap.size <= l) (_ : W.heap[l]? = some o) (_ : o.isCells = false) (_ : o.isWalk = false) : AnyW W (W.putObj l o') := trivial

end Go.Proofs.YtodgfbjjjgohgaaGreat
namespace Go.Proofs.YtodgfbjjjgohgaaGreat
open Go.RowKit Go.Shelf
attribute [local go_sem] Oper.semAt_some

def plc (pre : List (Int × Bool)) : List Int := (pre.filter (·.2)).map (·.1)
theorem plc_true (pre : List (Int × Bool)) (x : Int × Bool) (h : x.2 = true) : plc (pre ++ [x]) = plc pre ++ [x.1] := by simp [plc, h]
theorem plc_false (pre : List (Int × Bool)) (x : Int × Bool) (h : x.2 = false) : plc (pre ++ [x]) = plc pre := by simp [plc, h]
theorem plc_len (pre : List (Int × Bool)) : (plc pre).length <= pre.length := by
 simp only [plc, List.length_map]; exact List.length_filter_le _ _
def Nd.places (n : Nd) : List Int := plc n.ents

theorem Tryz.info3 : (Tryz.prog.info? 3).map (fun i => (i.zero, i.size, i.bytes)) = some (some (.int .i64 0), 1, 8) := by kernel_rfl

set_option maxRecDepth 100000 in
set_option maxHeartbeats 2000000 in
theorem places_in (n : Nd) (w : World) :
  CallsIn Fence.wide 9 Tryz.prog 93 #[.agg (ndCells n)] w fun e W' => ∃ v, e = .returned v /\ W'.ownsRow w.heap.size 3 1 v n.places.length (n.places.map (Value.int .i64)) /\ Below w.heap.size w W' := by
 obtain ⟨i0, hi, hz0, hz1, hz2⟩ := info_parts Tryz.info3
 refine callsIn_of_wp_marks Tryz.func93 rfl trivial ?_ rfl
 simp only [Tryz.ntmps93, List.size_toArray, List.length_cons, List.length_nil, Nat.reduceAdd, Nat.reduceSub, Array.replicate_succ, Array.replicate_zero, List.push_toArray, List.append_toArray, List.nil_append, List.cons_append]
 have hb0 := Blk.new w (ndCells n) 46
 have hi27 : (Tryz.prog.info? 46).map (·.size) = some (ndCells n).size := by rw [ndCells_size]; kernel_rfl
 have HI := Lib.hid hi27
 clear hi27
 have HL := Lib.hid (show ∀ j v, (ndCells n)[j]? = some v -> ((w.alloc (.cells (ndCells n) 46)).alloc (.cells #[.slice none 0 0] 51)).cell? ⟨w.heap.size, 0 + j, none⟩ = some v from fun j v hv => by
  rw [Nat.zero_add, (hb0.alloc _).cell]; exact hv)
 clear hb0
 gi_wp2_with (first
  | (with_reducible refine wpListIn_load_part (o := ⟨some 5, _, _, _, _, _⟩) rfl 46 _ rfl w.heap.size 0 rfl (ndCells n) _ HL.out Tryz.underlying46 rfl HI.out ?_)
  | (refine ⟨trivial, ?_⟩; gi_at_call 97; refine (entries_calls _ n _).mono ?_; rintro e w' ⟨rfl, rfl⟩))
 obtain ⟨w3, hw3⟩ : ∃ w3, w3 = ((w.alloc (.cells (ndCells n) 46)).alloc (.cells #[.slice none 0 0] 51)).alloc (.cells (ndCells n) 46) := ⟨_, rfl⟩
 have b3 : Blk w3 (w.heap.size + 2) (ndCells n) 46 := by
  rw [hw3]; have := Blk.new ((w.alloc (.cells (ndCells n) 46)).alloc (.cells #[.slice none 0 0] 51)) (ndCells n) 46; simpa using this
 have k3 : Blk w3 (w.heap.size + 1) #[.slice none 0 0] 51 := by
  rw [hw3]; have := (Blk.new (w.alloc (.cells (ndCells n) 46)) #[.slice none 0 0] 51).alloc (.cells (ndCells n) 46); simpa using this
 have hB0 : Below w.heap.size w w3 := by
  rw [hw3]; exact (((Below.refl _ w).alloc (Nat.le_refl _) _).alloc (by simp) _).alloc (by simp; omega) _
 have hs3 : w3.heap.size = w.heap.size + 3 := by rw [hw3]; simp
 rw [<- hw3]
 clear hw3 HL
 refine wpIn_rangeFunc_ownF rfl (by omega) (gf := 99) (lb := #[.pointer (some ⟨w.heap.size + 2, 0, none⟩)]) (by simp [Act.eval]) trivial (enters_of Tryz.func99 (by kernel_rfl) rfl)
  (entries_stops 8 (by omega) n (w.heap.size + 2) w3 b3) anyK_t anyK_b (Below.refl _ _) (fun _ => rfl)
  (fun pre W => (∃ v, Blk W (w.heap.size + 1) #[v] 51 /\ W.ownsRow (w.heap.size + 3) 3 1 v (plc pre).length ((plc pre).map (Value.int .i64))) /\ w.heap.size + 3 <= W.heap.size /\ Below w.heap.size w W)
  (fun _ _ _ => False)
  (fun s A B row hs hg hr => by
   obtain ⟨⟨v, h1, h2⟩, h3, h4⟩ := hs
   exact ⟨⟨v, h1.put hg (fun r e => (hr r e).2), own_put h2 hg (fun r e => (hr r e).2)⟩, Nat.le_trans h3 hg.size, h4.grown hg h4.size (fun r e => by have := (hr r e).1; omega)⟩)
  (fun _ _ _ _ _ hs _ _ => hs)
  ⟨⟨_, k3, World.ownsRow_nil _ _ _ _⟩, by omega, hB0⟩
  (fun x => { tmps := #[.agg (ndCells n), .pointer (some ⟨w.heap.size, 0, none⟩), .pointer (some ⟨w.heap.size + 1, 0, none⟩), .int .i64 x.1, .bool x.2, .agg (ndCells n), .func (.func 99) #[] #[.pointer (some ⟨w.heap.size + 2, 0, none⟩)], .int .i64 x.1, .bool x.2, undef, undef, undef, undef, undef, undef], defers := [] }) ?assign ?body ?done ?stop
 case assign =>
  intro l x W K hK
  simp [encE]
  gi_wp2
  exact hK
 case body =>
  rintro l pre x W ⟨⟨v, hk, hown⟩, hs, hB⟩ hlen
  have hpl := plc_len pre
  obtain ⟨x1, x2⟩ := x
  have hc := hk.cell 0
  have hf := hk.frozen 0
  rw [show (#[v] : Array Value)[0]? = some v from rfl] at hc
  cases x2
  ·have hp := Lib.hid (plc_false pre (x1, false) rfl)
   gi_wp2
   exact ⟨KeepsOthers.refl _, trivial, by rw [hp.out]; exact ⟨v, hk, hown⟩, hs, hB⟩
  ·have hp := Lib.hid (plc_true pre (x1, true) rfl)
   gi_wp2_with (gi_at_builtin; refine wpListIn_append_own _ rfl _ _ 51 rfl (w.heap.size + 3) 3 i0 (.int .i64 0) 1 8 Tryz.underlying51 hi hz0 hz1 hz2 rfl (by decide) _ _ _ rfl (hown.alloc _) ⟨W.heap.size, 0, none⟩ 1 1 [.int .i64 x1] rfl rfl (cell_one_new _ _ _) (ints_oneCell .i64 [x1]) (by unfold maxLen; omega) (by omega) (by simp; omega) ?_)
   intro v' w1 hown' hgrow hnil
   obtain ⟨g, cap, rfl, hg1, hg2, hg3, hg4, hg5, hg6, hg7⟩ := own_shape hown' (by omega)
   have hk1 := (hk.alloc (.cells #[.int .i64 x1] 3)).grown hgrow (fun e => by have := own_base hown _ e.symm; omega)
   have hc1 := hk1.cell 0
   rw [show (#[v] : Array Value)[0]? = some v from rfl] at hc1
   have hf1 := hk1.frozen 0
   have HB1 := Lib.hid ((hB.alloc hB.size (.cells #[.int .i64 x1] 3)).grown hgrow (by simp; have := hB.size; omega) (fun r e => by have := own_base hown _ e; omega))
   have HK1 := Lib.hid hk1
   have HO := Lib.hid hown'
   have HS := Lib.hid (show w.heap.size + 3 <= w1.heap.size by have := hgrow.size; simp at this; omega)
   have HKo := Lib.hid ((KeepsOthers.alloc W (.cells #[.int .i64 x1] 3)).trans (KeepsOthers.of_grownBy hgrow (fun j o e ho => by obtain ⟨_, _, _, rfl⟩ := own_cells (hown.alloc (.cells #[.int .i64 x1] 3)) j o e ho; rfl)))
   clear hk1 hown' hk hown hgrow hnil hg5 hg6 hg7 hB hs
   gi_wp2
   refine ⟨HKo.out.trans (KeepsOthers.setCell _ _ _), trivial, ⟨_, by simpa using HK1.out.set 0 (.slice (some ⟨g, 0, none⟩) ((plc pre).length + 1) cap), ?_⟩, by simpa [World.setCell] using HS.out, HB1.out.setCell (p := ⟨w.heap.size + 1, 0, none⟩) (by simp) _⟩
   rw [hp.out]
   have := ownsRow_setCell_below HO.out (a := ⟨w.heap.size + 1, 0, none⟩) (by simp) (.slice (some ⟨g, 0, none⟩) ((plc pre).length + 1) cap)
   simpa using this
 case done =>
  rintro D xs W hD rfl ⟨⟨v, hk, hown⟩, hs, hB⟩ hK
  obtain ⟨a, lw, cw, rfl⟩ := own_slice hown
  have hc := hk.cell 0
  rw [show (#[Value.slice a lw cw] : Array Value)[0]? = some (.slice a lw cw) from rfl] at hc
  have hf := hk.frozen 0
  have hsz := hB.size
  have hKs := (KeepsOthers.setCell W ⟨w.heap.size + 1, 0, none⟩ (.slice a lw cw)).same D _ hK rfl
  have HB := Lib.hid (hB.setCell (p := ⟨w.heap.size + 1, 0, none⟩) (by simp) (.slice a lw cw))
  have HK1 := Lib.hid (hk.set 0 (.slice a lw cw))
  have HO := Lib.hid (ownsRow_setCell_below hown (a := ⟨w.heap.size + 1, 0, none⟩) (by simp) (.slice a lw cw))
  clear hk hB hown hs
  gi_wp2
  refine ⟨by simp, .inl ⟨_, _, rfl, run_takeDeferred hKs, ?_⟩⟩
  have hc5 : ((W.setCell ⟨w.heap.size + 1, 0, none⟩ (.slice a lw cw)).putObj D (.deferred none)).cell? ⟨w.heap.size + 1, 0, none⟩ = some (.slice a lw cw) := by
   have := HK1.out.grown (grownBy_putObj' _ D (.deferred none)) (fun e => by
    have e1 := Option.some.inj e
    omega)
   rw [this.cell]; rfl
  exact ⟨.slice a lw cw, by simp [results, Tryz.results93, go_sem, hc5], _, rfl, own_mono (own_put HO.out (grownBy_putObj' _ D (.deferred none)) (fun r e => by cases e; exact ⟨_, hKs, rfl⟩)) (by omega), HB.out.trans (belowK_b (w := w) (Nat.le_refl _) _ D _ _ (by omega) hKs rfl rfl)⟩
 case stop =>
  rintro D c pre W _ _ h _
  exact h.elim

theorem places_calls (n : Nd) (w : World) : Calls Tryz.prog 93 #[.agg (ndCells n)] w fun e W' => ∃ v, e = .returned v /\ W'.ownsRow w.heap.size 3 1 v n.places.length (n.places.map (Value.int .i64)) /\ Below w.heap.size w W' := callsIn_wide.1 (places_in n w)
end Go.Proofs.YtodgfbjjjgohgaaGreat
