/-
  THE ITERATOR OVER A WORD's BITS (bits.All): its contract.
-/
import Derived.Test.YtdekjfbaoaobeaaJr
import Derived.RangeFuncNested
import Derived.RangeFuncBound
import Derived.RangeFuncCalls
import Derived.RangeFuncLeaves
import Derived.RangeFuncBox
import Derived.RangeFuncMany
import Derived.Shelf.Abstract
import Derived.Shelf.RegionOpen
import Derived.OwnWalkIn
import Derived.TacticsInMore
import Derived.RegionIn
import Derived.LoopNIn
import Derived.LoopIn
namespace Go.Proofs.Ytdekjfbaoaobeaa
open Go.RowKit Go.Shelf
attribute [local go_sem] Oper.semAt_some

def encI (x : Int) : Array Value := #[.int .i64 x]
def bitsTo (m k : Nat) : List Int := ((List.range k).filter (fun i => m.testBit i)).map (fun n : Nat => (n : Int))
def bitsL (m : Nat) : List Int := bitsTo m 64
theorem bitsTo_yes {m k : Nat} (h : m.testBit k = true) : bitsTo m (k + 1) = bitsTo m k ++ [(k : Int)] := by simp [bitsTo, List.range_succ, h]
theorem bitsTo_no {m k : Nat} (h : m.testBit k = false) : bitsTo m (k + 1) = bitsTo m k := by simp [bitsTo, List.range_succ, h]
theorem bitsTo_len (m k : Nat) : (bitsTo m k).length ≤ k := by
  have := List.length_filter_le (fun i => m.testBit i) (List.range k)
  simpa [bitsTo] using this
theorem bitsTo_pre (m k : Nat) : ∀ d, bitsTo m k <+: bitsTo m (k + d) := by
  intro d
  induction d with
  | zero => exact List.prefix_refl _
  | succ d ih =>
    rw [← Nat.add_assoc]
    cases h : m.testBit (k + d)
    · rw [bitsTo_no h]; exact ih
    · rw [bitsTo_yes h]; exact ih.trans (List.prefix_append _ _)
def KpB (bc : Nat) (A B : World) : Prop := A.heap.size ≤ B.heap.size ∧ (bc < A.heap.size → B.heap[bc]? = A.heap[bc]?)
theorem kpB_t {bc : Nat} {A B C : World} (h : KpB bc A B) (k : KpB bc B C) : KpB bc A C := ⟨Nat.le_trans h.1 k.1, fun hb => (k.2 (by have := h.1; omega)).trans (h.2 hb)⟩
theorem kpB_b {w : World} {bc : Nat} (hn : bc < w.heap.size) (W : World) (l : Nat) (o o' : Obj) (hl : w.heap.size ≤ l) (h : W.heap[l]? = some o) (hc : o.isCells = false) (hw : o.isWalk = false) : KpB bc W (W.putObj l o') :=
  ⟨(belowK_b (w := w) (n₀ := bc + 1) (by omega) W l o o' hl h hc hw).size, fun hb => (belowK_b (w := w) (n₀ := bc + 1) (by omega) W l o o' hl h hc hw).block bc (by omega)⟩

theorem has_in (mm m : Nat) (hm : m < 18446744073709551616) (k : Nat) (w : World) : CallsIn Fence.wide mm Try.prog 13 #[.int .u64 m, .int .i64 k] w fun e w' => e = .returned (.bool (m.testBit k)) ∧ w = w' := by
  refine callsIn_wide.2 ((bhas_v m hm k w).mono ?_)
  rintro e w' ⟨rfl, rfl⟩
  refine ⟨?_, rfl⟩
  rw [has_bit m hm]; simp

set_option maxRecDepth 100000 in
set_option maxHeartbeats 1000000 in
theorem all_stops (mm : Nat) (hmm : 1 ≤ mm) (m : Nat) (hm : m < 18446744073709551616) (b : Nat) (w : World) (hb : Blk w b #[.int .u64 m] 22) :
    SeqStopsK Fence.wide mm Try.prog 38 #[.pointer (some ⟨b, 0, none⟩)] encI (KpB b) (fun xs => xs = bitsL m) (fun pre => pre <+: bitsL m) 64 w := by
  intro l J Jx W hW _ _ hY h0
  have hB : Blk W b #[.int .u64 m] 22 := (hW.block b hb.lt).trans hb
  have hbW := hB.lt
  have HH := Lib.hid (fun (mm' k : Nat) (W : World) => has_in mm' m hm k W)
  clear hb hW
  refine callsIn_of_wp Try.func38 rfl trivial ?_ rfl
  simp only [Try.ntmps38, List.size_toArray, List.length_cons, List.length_nil, Nat.reduceAdd, Nat.reduceSub, Array.replicate_succ, Array.replicate_zero, List.push_toArray, List.append_toArray, List.nil_append, List.cons_append]
  gi_wp2
  gi_loopw [4] (fun iv wr => ∃ k : Nat, k ≤ 64 ∧ iv = .int .i64 k ∧ J (bitsTo m k) wr ∧ Hid (Blk wr b #[.int .u64 m] 22)) (fun iv _ => 64 - (intOf iv).toNat)
  case atStart => exact ⟨0, Nat.zero_le _, rfl, h0, Lib.hid hB⟩
  case round =>
    obtain ⟨k, hk, rfl, hJ, hBk⟩ := hrel
    have hc := hBk.out.cell 0
    rw [show (#[Value.int .u64 m] : Array Value)[0]? = some (.int .u64 m) from rfl] at hc
    by_cases hlt : k < 64
    · have b1 : (k : Int) < 64 := by omega
      cases hb : m.testBit k
      · have HH2 := Lib.hid (show ∀ mm', CallsIn Fence.wide mm' Try.prog 13 #[.int .u64 m, .int .i64 k] wr fun e w' => e = .returned (.bool false) ∧ wr = w' by intro mm'; have := HH.out mm' k wr; rwa [hb] at this)
        have HE := Lib.hid (bitsTo_no hb)
        clear hb
        gi_wp2_with (refine ⟨trivial, ?_⟩; gi_at_call 13; refine (HH2.out _).mono ?_; rintro e w' ⟨rfl, rfl⟩)
        refine ⟨fun _ h => (by cases h), ?_⟩
        gi_wp2
        go_roundw
        case rel => exact ⟨k + 1, by omega, by go_num, by rw [HE.out]; exact hJ, hBk⟩
        case measure => simp [intOf]; omega
      · have HH2 := Lib.hid (show ∀ mm', CallsIn Fence.wide mm' Try.prog 13 #[.int .u64 m, .int .i64 k] wr fun e w' => e = .returned (.bool true) ∧ wr = w' by intro mm'; have := HH.out mm' k wr; rwa [hb] at this)
        have HE := Lib.hid (bitsTo_yes hb)
        clear hb
        obtain ⟨fn, tmps, assign, body, hy, hR⟩ := hY _ (k : Int) wr hJ (by have := bitsTo_len m k; omega)
        dsimp only [encI] at hy
        gi_wp2_with (refine ⟨trivial, ?_⟩; gi_at_call 13; refine (HH2.out _).mono ?_; rintro e w' ⟨rfl, rfl⟩)
        refine hR.mono ?_
        rintro e W3 (⟨rfl, hJ3, hk3⟩ | ⟨rfl, hJx3⟩)
        · have HB3 := Lib.hid (show Blk W3 b #[.int .u64 m] 22 from (hk3.2 hBk.out.lt).trans hBk.out)
          clear hk3
          gi_wp2
          go_roundw
          case rel => exact ⟨k + 1, by omega, by go_num, by rw [HE.out]; exact hJ3, HB3⟩
          case measure => simp [intOf]; omega
        · have HX := Lib.hid (show bitsTo m k ++ [(k : Int)] <+: bitsL m from by rw [← HE.out]; have := bitsTo_pre m (k + 1) (64 - (k + 1)); rwa [show k + 1 + (64 - (k + 1)) = 64 by omega] at this)
          gi_wp2
          refine bodyPost_ret (results_none rfl _ _ _) rfl ?_
          exact ⟨⟨_, rfl⟩, .inr ⟨_, HX.out, hJx3⟩⟩
    · have hk2 : k = 64 := by omega
      subst hk2
      gi_wp2
      go_end0
      exact ⟨⟨_, rfl⟩, .inl ⟨_, rfl, hJ⟩⟩
end Go.Proofs.Ytdekjfbaoaobeaa
