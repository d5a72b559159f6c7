/-
  node.Valid: its contract.
-/
import Derived.Test.YtgmbnoimlffgcaaPl
import Derived.StillTactics
import Derived.Deep.RegionHeld3
import Derived.Deep.AppendLies
import Derived.WalkSpells
import Derived.BigQuiet
import Derived.Deep.QuietTactic
namespace Go.Proofs.Ytgmbnoimlffgcaa
open Go.RowKit

def plN (n : Nd) : List Nat := (List.range n.len).filter (fun i => n.p i != n.ahead i)
theorem places_eq (n : Nd) : n.places = (plN n).map (fun (i : Nat) => (i : Int)) := by
  unfold Nd.places plc Nd.ents plN
  rw [List.filter_map, List.map_map]
  rfl
theorem plN_lt (n : Nd) (i : Nat) (h : i ∈ plN n) : i < n.len := by
  unfold plN at h; simp at h; exact h.1
theorem plN_len (n : Nd) : (plN n).length ≤ 8 := by
  have h1 : (plN n).length ≤ (List.range n.len).length := List.length_filter_le _ _
  have := n.len_le
  simp at h1; omega
def Nd.valid (n : Nd) : List (Int × Int) := (plN n).map (fun i => (n.k i, n.p i))
theorem Try.info60 : (Try.prog.info? 113).map (fun i => (i.zero, i.size, i.bytes)) = some (some (.agg #[.int .u64 0, .int .u64 0]), 2, 16) := by kernel_rfl
set_option maxRecDepth 100000 in
set_option maxHeartbeats 1000000 in
theorem valid_calls (n : Nd) (w : World) :
    Calls Try.prog 101 #[.agg (ndCells n)] w fun e W' => ∃ v, e = .returned v ∧ W'.ownsRow w.heap.size 113 2 v n.valid.length (ecells n.valid) ∧ Below w.heap.size w W' := by
  obtain ⟨i0, hi, hz0, hz1, hz2⟩ := info_parts Try.info60
  have hb0 := Blk.new w (ndCells n) 40
  have hi27 : (Try.prog.info? 40).map (·.size) = some (ndCells n).size := by rw [ndCells_size]; kernel_rfl
  have HI := Lib.hid hi27
  clear hi27
  have HL := Lib.hid (show ∀ j v, (ndCells n)[j]? = some v → (w.alloc (.cells (ndCells n) 40)).cell? ⟨w.heap.size, 0 + j, none⟩ = some v from fun j v hv => by
    rw [Nat.zero_add, hb0.cell]; exact hv)
  have HB0 := Lib.hid hb0
  clear hb0
  go_enter Try.func101, Try.ntmps101
  go_wp2_with (with_reducible refine wpList_load_part (o := ⟨some 5, _, _, _, _, _⟩) rfl 40 _ rfl w.heap.size 0 rfl (ndCells n) _ HL.out Try.underlying40 rfl HI.out ?_)
  refine (places_calls n _).mono ?_
  rintro e w1 ⟨v, rfl, hv, hB⟩
  have hb1 : Blk w1 w.heap.size (ndCells n) 40 := (hB.block _ (by simp)).trans HB0.out
  have hBw : Below w.heap.size w w1 := ((Below.refl _ w).alloc (Nat.le_refl _) _).trans (hB.mono (by simp))
  have hs1 : w.heap.size + 1 ≤ w1.heap.size := by have := hB.size; simp at this; exact this
  rw [places_eq, List.length_map, List.map_map] at hv
  have hl8 := plN_len n
  rcases own_cases hv with ⟨h0, a, c, rfl⟩ | ⟨hpos, g, cap, rfl, hg1, hg2, hg3, hg4, hg5, hg6⟩
  · have hv0 : n.valid = [] := by unfold Nd.valid; rw [List.eq_nil_of_length_eq_zero h0]; rfl
    have HV0 := Lib.hid hv0
    have HBw := Lib.hid hBw
    clear hv0 h0 hv hB hBw
    go_wp2_with (fail)
    refine wp_loop_rounds 1 ?_
    rw [rounds_succ]
    go_wp2_with (fail)
    go_ret
    exact ⟨_, rfl, by rw [HV0.out]; exact World.ownsRow_nil _ _ _ _, HBw.out⟩
  · have HG := Lib.hid hg5
    have HBw := Lib.hid hBw
    have HB1 := Lib.hid hb1
    clear hv hB hBw hb1 hg5 hg6
    go_wp2_with (fail)
    go_loopw [2, 8] (fun ov iv wr => ∃ k : Nat, k ≤ (plN n).length ∧ iv = .int .i64 k ∧ wr.ownsRow w1.heap.size 113 2 ov k (ecells (n.valid.take k)) ∧ Below w1.heap.size w1 wr) (fun _ iv _ => (plN n).length - (intOf iv).toNat)
    case atStart => exact ⟨0, Nat.zero_le _, rfl, World.ownsRow_nil _ _ _ _, Below.refl _ _⟩
    case round =>
      obtain ⟨k, hk, rfl, hown, hBr⟩ := hrel
      by_cases hlt : k < (plN n).length
      · obtain ⟨j, hj⟩ : ∃ j, j = (plN n)[k] := ⟨_, rfl⟩
        have hjm : j ∈ plN n := by rw [hj]; exact List.getElem_mem _
        have hjl := plN_lt n j hjm
        have hl := n.len_le
        have hj8 : j < 8 := by omega
        have cv : wr.cell? ⟨g, k, none⟩ = some (.int .i64 j) := by
          rw [hBr.cell (p := ⟨g, k, none⟩) hg2, HG.out k hlt]; simp [hlt, hj]
        have hb : Blk wr w.heap.size (ndCells n) 40 := (hBr.block _ (by omega)).trans HB1.out
        have ck : wr.cell? ⟨w.heap.size, 5 + j, none⟩ = some (.int .u64 (n.k j)) := by rw [hb.cell, ndCells_k n j hj8]
        have cp : wr.cell? ⟨w.heap.size, 13 + j, none⟩ = some (.int .u64 (n.p j)) := by rw [hb.cell, ndCells_p n j hj8]
        have htk : n.valid.take (k + 1) = n.valid.take k ++ [(n.k j, n.p j)] := by
          rw [List.take_succ_eq_append_getElem (by unfold Nd.valid; simpa using hlt)]; simp [Nd.valid, hj]
        have HTK := Lib.hid htk
        have b1 : (j : Int) < 8 := by omega
        have lb : w.heap.size < wr.heap.size := hb.lt
        have hvl : n.valid.length = (plN n).length := by simp [Nd.valid]
        have HVL := Lib.hid hvl
        have hb8 : k ≤ 8 := by omega
        have ab : u2.ownBlock ≠ some w.heap.size := fun e => by have := own_base hown _ e; omega
        have hBs := Lib.hid hBr
        have hsz : w1.heap.size ≤ wr.heap.size := hBr.size
        clear htk hj hjm hb hvl hBr
        go_wp2_with (fail)
        go_region_held3 (fun w' => w'.cell? ⟨w.heap.size, 5 + j, none⟩ = some (.int .u64 (n.k j)) ∧ w'.cell? ⟨w.heap.size, 13 + j, none⟩ = some (.int .u64 (n.p j)))
          (first
            | go_keep
            | (go_split_ands
               refine ⟨?_, ?_⟩
               · (rw [hgrow.cell_far _ (by simp; omega) (Ne.symm ab)]; assumption)
               · (rw [hgrow.cell_far _ (by simp; omega) (Ne.symm ab)]; assumption)))
          ((refine step_append_lies _ (by rfl) _ _ _ (by rfl) w1.heap.size 113 i0 _ 2 16 Try.underlying81 hi hz0 hz1 hz2 rfl (by omega) u2 k _ (by rfl) ((hown.alloc _).drew)
              ⟨wr.heap.size, 0, none⟩ 1 1 [.int .u64 (n.k j), .int .u64 (n.p j)] (by rfl) (by rfl) (World.news_of_block (cs := #[.int .u64 (n.k j), .int .u64 (n.p j)]) (t := 113) (fr := (0, 0)) (heap_alloc_new wr _)) (by simp [Value.oneCell'])
              (by omega) (by unfold maxLen; omega) (by omega) (by simp; omega) (wr.heap.size + 1) (by simp) ?_; intro gg cap2 w4 hown4 hgrow hat hlt2))
        all_goals (go_wp2_with (fail))
        go_roundw
        case rel =>
          refine ⟨k + 1, by omega, by go_num, ?_, ?_⟩
          · rw [HTK.out, ecells_snoc]; exact hown4
          · exact ((hBs.out.alloc hsz (.cells #[.int .u64 (n.k j), .int .u64 (n.p j)] 113)).drew).grown hgrow (by simp; omega) (fun r e => own_base hown _ e)
        case measure => simp [intOf]; omega
      · have HVE := Lib.hid (show n.valid.take k = n.valid ∧ n.valid.length = k by
          have : n.valid.length = (plN n).length := by simp [Nd.valid]
          exact ⟨List.take_of_length_le (by omega), by omega⟩)
        have HO := Lib.hid hown
        have HF := Lib.hid (HBw.out.trans (hBr.mono (by omega)))
        clear hown hBr
        go_wp2_with (fail)
        go_ret
        exact ⟨_, rfl, by have := own_mono HO.out (show w.heap.size ≤ w1.heap.size by omega); rw [HVE.out.1] at this; rw [HVE.out.2]; exact this, HF.out⟩
end Go.Proofs.Ytgmbnoimlffgcaa
