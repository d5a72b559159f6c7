/-
  THE ITERATOR OVER A SET's ROW (slices.Values): its contract.
-/
import Derived.Test.YtdekjfbaoaobeaaJm
import Derived.Test.YtdekjfbaoaobeaaHn
import Derived.Outline
namespace Go.Proofs.Ytdekjfbaoaobeaa
open Go.RowKit Go.Shelf
attribute [local go_sem] Oper.semAt_some

def encU (x : Int) : Array Value := #[.int .u64 x]
/-- a row of addresses that lies in block g -/
structure RowG (w : World) (g : Nat) (v : Value) (l : List Int) : Prop where
  sl : ∃ a c, v = .slice a l.length c ∧ (0 < l.length → a = some ⟨g, 0, none⟩)
  lt : g < w.heap.size
  ce : ∀ j, j < l.length → w.cell? ⟨g, j, none⟩ = some (.int .u64 (l.getD j 0))
theorem RowG.kept {w w' : World} {g : Nat} {v : Value} {l : List Int} (h : RowG w g v l) (hs : w.heap.size ≤ w'.heap.size) (hk : g < w.heap.size → w'.heap[g]? = w.heap[g]?) : RowG w' g v l :=
  ⟨h.sl, Nat.lt_of_lt_of_le h.lt hs, fun j hj => (World.cell?_of_block (w := w) (a := ⟨g, j, none⟩) (hk h.lt)).trans (h.ce j hj)⟩
theorem HeapV.rowG {w : World} {b : Nat} {v : Value} {l : List Int} (h : HeapV w b v l) : ∃ g, RowG w g v l := by
  by_cases h0 : 0 < l.length
  · obtain ⟨g, cap, rfl, _, hg, _, _, _, hc, _⟩ := own_shape h.row h0
    exact ⟨g, ⟨_, _, rfl, fun _ => rfl⟩, hg, fun j hj => by rw [hc j hj]; simp [hj]⟩
  · obtain ⟨a, c, rfl⟩ := h.slice
    exact ⟨b, ⟨_, _, rfl, fun h => absurd h h0⟩, h.blk.lt, fun j hj => absurd hj (by omega)⟩

theorem take_snocI (l : List Int) (k : Nat) (h : k < l.length) : l.take (k + 1) = l.take k ++ [l.getD k 0] := by
  rw [List.take_succ_eq_append_getElem h]; simp [h]

set_option maxRecDepth 100000 in
set_option maxHeartbeats 1000000 in
theorem vals_stops (mm : Nat) (hmm : 1 ≤ mm) (v : Value) (l : List Int) (b g : Nat) (w : World) (hn : l.length ≤ 1000000) (hb : Blk w b #[v] 56) (hr : RowG w g v l) :
    SeqStopsK Fence.wide mm Try.prog 53 #[.pointer (some ⟨b, 0, none⟩)] encU (KpB g) (fun xs => xs = l) (fun pre => pre <+: l) l.length w := by
  intro ll J Jx W hW _ _ hY h0
  have hB : Blk W b #[v] 56 := (hW.block b hb.lt).trans hb
  have hR : RowG W g v l := hr.kept hW.size (fun h => hW.block g h)
  have hc0 := hB.cell 0
  rw [show (#[v] : Array Value)[0]? = some v from rfl] at hc0
  have HR := Lib.hid hR
  obtain ⟨a1, c1, rfl, ha⟩ := hR.sl
  have HA := Lib.hid ha
  clear hb hW hr hR ha hB
  refine callsIn_of_wp Try.func53 rfl trivial ?_ rfl
  simp only [Try.ntmps53, List.size_toArray, List.length_cons, List.length_nil, Nat.reduceAdd, Nat.reduceSub, Array.replicate_succ, Array.replicate_zero, List.push_toArray, List.append_toArray, List.nil_append, List.cons_append]
  gi_wp2
  gi_loopw [7] (fun iv wr => ∃ k : Nat, k ≤ l.length ∧ iv = .int .i64 k ∧ J (l.take k) wr ∧ Hid (RowG wr g (.slice a1 l.length c1) l)) (fun iv _ => l.length - (intOf iv).toNat)
  case atStart => exact ⟨0, Nat.zero_le _, rfl, h0, HR⟩
  case round =>
    obtain ⟨k, hk, rfl, hJ, hBk⟩ := hrel
    by_cases hlt : k < l.length
    · have c2 := hBk.out.ce k hlt
      obtain rfl := HA.out (by omega)
      obtain ⟨x, hx⟩ : ∃ x, l.getD k 0 = x := ⟨_, rfl⟩
      rw [hx] at c2
      have HT := Lib.hid (take_snocI l k hlt)
      have HX := Lib.hid hx
      have b1 : (k : Int) < (l.length : Int) := by omega
      have b3 : ((k : Int)).toNat = k := by omega
      have HLT := Lib.hid hlt
      clear hx hlt
      obtain ⟨fn, tmps, assign, body, hy, hRR⟩ := hY _ x wr hJ (by rw [List.length_take]; have := HLT.out; omega)
      dsimp only [encU] at hy
      gi_wp2
      refine hRR.mono ?_
      rintro e W3 (⟨rfl, hJ3, hk3⟩ | ⟨rfl, hJx3⟩)
      · have HB3 := Lib.hid (hBk.out.kept hk3.1 hk3.2)
        clear hk3
        gi_wp2
        go_roundw
        case rel => exact ⟨k + 1, HLT.out, by go_num, by rw [HT.out, HX.out]; exact hJ3, HB3⟩
        case measure => have := HLT.out; simp [intOf]; omega
      · have HP := Lib.hid (show l.take k ++ [x] <+: l from by rw [← HX.out, ← HT.out]; exact List.take_prefix _ _)
        gi_wp2
        refine bodyPost_ret (results_none rfl _ _ _) rfl ?_
        exact ⟨⟨_, rfl⟩, .inr ⟨_, HP.out, hJx3⟩⟩
    · have hk2 : k = l.length := by omega
      subst hk2
      rw [List.take_length] at hJ
      gi_wp2
      go_end0
      exact ⟨⟨_, rfl⟩, .inl ⟨_, rfl, hJ⟩⟩

theorem values_calls (mm : Nat) (a : Option Addr) (n c : Nat) (w : World) :
    CallsIn Fence.wide mm Try.prog 42 #[.slice a n c] w fun e w' => e = .returned (.func (.func 53) #[] #[.pointer (some ⟨w.heap.size, 0, none⟩)]) ∧ w' = w.alloc (.cells #[.slice a n c] 56) := by
  refine callsIn_wide.2 ?_
  go_enter Try.func42, Try.ntmps42
  go_wp2
  go_ret
  exact ⟨rfl, rfl⟩
end Go.Proofs.Ytdekjfbaoaobeaa
