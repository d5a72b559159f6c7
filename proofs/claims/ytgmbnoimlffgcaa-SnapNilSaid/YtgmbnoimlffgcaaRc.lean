/-
  THE REFERENCE's Valid: its contract.
-/
import Derived.Test.YtgmbnoimlffgcaaRa
namespace Go.Proofs.Ytgmbnoimlffgcaa
open Go.RowKit

/-! ### the first place from i on, below i + d, of which t holds -/
def firstF (t : Nat → Bool) : Nat → Nat → Int
  | 0, _ => -1
  | d + 1, i => if t i = true then (i : Int) else firstF t d (i + 1)
/-- the last one below k -/
def lastF (t : Nat → Bool) : Nat → Int
  | 0 => -1
  | k + 1 => if t k = true then (k : Int) else lastF t k
def Nd.find (n : Nd) (key : Int) : Int := firstF (fun i => n.ok i && (n.k i == key)) n.len 0
def Nd.last (n : Nd) (key : Int) : Int := lastF (fun i => n.ok i && decide (n.k i ≤ key)) n.len
def Nd.inval (n : Nd) : Int := firstF (fun i => !n.ok i) n.len 0

theorem rinvalid_calls (n : Nd) (w : World) : Calls Try.prog 28 #[.agg (ndCells n)] w fun e W' => e = .returned (.int .i64 n.inval) ∧ Below w.heap.size w W' := by
  have HI := Lib.hid (info27 n)
  have HB0 := Lib.hid (Blk.new w (ndCells n) 40)
  have HW := Lib.hid ((Below.refl w.heap.size w).alloc (Nat.le_refl _) (.cells (ndCells n) 40))
  go_enter Try.func28, Try.ntmps28
  go_wp2_with (fail)
  obtain ⟨w0, hw0⟩ : ∃ w0, w0 = w.alloc (.cells (ndCells n) 40) := ⟨_, rfl⟩
  rw [← hw0] at HB0 HW ⊢
  have hs0 : w0.heap.size ≤ w.heap.size + 1 := by rw [hw0]; simp
  have hs1 : w.heap.size + 1 ≤ w0.heap.size := by rw [hw0]; simp
  clear hw0
  go_loopw [3] (fun iv wr => ∃ k : Nat, k ≤ n.len ∧ iv = .int .i64 k ∧ Hid (n.inval = firstF (fun i => !n.ok i) (n.len - k) k) ∧ Below w0.heap.size w0 wr) (fun iv _ => 9 - (intOf iv).toNat)
  case atStart => exact ⟨0, Nat.zero_le _, rfl, rfl, Below.refl _ _⟩
  case round =>
    obtain ⟨k, hk, rfl, hR, hB⟩ := hrel
    have hl := n.len_le
    have HL := Lib.hid (ndLoad (HB0.out.below hB (by omega)))
    have HB := Lib.hid hB
    have hsz : w0.heap.size ≤ wr.heap.size := hB.size
    clear hB
    go_wp2_with (with_reducible refine wpList_load_part (o := ⟨some 5, _, _, _, _, _⟩) rfl 40 _ rfl w.heap.size 0 rfl (ndCells n) _ HL.out Try.underlying40 rfl HI.out ?_)
    refine (rlen_calls n _).mono ?_
    rintro e w2 ⟨rfl, hB2⟩
    have HB2 := Lib.hid (HB.out.trans (hB2.mono hsz))
    have hsz2 : w0.heap.size ≤ w2.heap.size := HB2.out.size
    clear hB2 HL HB
    by_cases hlt : k < n.len
    · have hlt' : (k : Int) < (n.len : Int) := by omega
      have HL2 := Lib.hid (ndLoad (HB0.out.below HB2.out (by omega)))
      have hr2 : n.inval = if (!n.ok k) = true then (k : Int) else firstF (fun i => !n.ok i) (n.len - (k + 1)) (k + 1) := by
        rw [hR.out, show n.len - k = (n.len - (k + 1)) + 1 by omega]; rfl
      go_wp2_with (with_reducible refine wpList_load_part (o := ⟨some 10, _, _, _, _, _⟩) rfl 40 _ rfl w.heap.size 0 rfl (ndCells n) _ HL2.out Try.underlying40 rfl HI.out ?_)
      refine (ris_calls n k (by omega) _).mono ?_
      rintro e w3 ⟨rfl, hB3⟩
      have HB3 := Lib.hid (HB2.out.trans (hB3.mono hsz2))
      cases ho : n.ok k
      · rw [ho] at hr2
        have HR := Lib.hid hr2
        clear hr2 ho hB3 HL2 hR
        go_wp2_with (fail)
        go_ret
        exact ⟨by rw [HR.out]; rfl, HW.out.trans (HB3.out.mono (by omega))⟩
      · rw [ho] at hr2
        have HR := Lib.hid hr2
        clear hr2 ho hB3 HL2 hR
        go_wp2_with (fail)
        go_roundw
        case rel => exact ⟨k + 1, by omega, by go_num, HR.out, HB3.out⟩
        case measure => simp [intOf]; omega
    · have he : n.len - k = 0 := by omega
      have hlt' : ¬ (k : Int) < (n.len : Int) := by omega
      have HF := Lib.hid (show n.inval = -1 by rw [hR.out, he]; rfl)
      clear he hR
      go_wp2_with (fail)
      go_ret
      exact ⟨by rw [HF.out]; rfl, HW.out.trans (HB2.out.mono (by omega))⟩

end Go.Proofs.Ytgmbnoimlffgcaa
namespace Go.Proofs.Ytgmbnoimlffgcaa
open Go.RowKit

set_option maxRecDepth 100000 in
set_option maxHeartbeats 1600000 in
theorem rvalid_calls (n : Nd) (w : World) :
    Calls Try.prog 30 #[.agg (ndCells n)] w fun e W' => ∃ v, e = .returned v ∧ W'.ownsRow w.heap.size 113 2 v n.valid.length (ecells n.valid) ∧ Below w.heap.size w W' := by
  obtain ⟨i0, hi, hz0, hz1, hz2⟩ := info_parts Try.info60
  have hb0 := Blk.new w (ndCells n) 40
  have HI := Lib.hid (info27 n)
  have HL := Lib.hid (ndLoad hb0)
  have HB0 := Lib.hid hb0
  clear hb0
  go_enter Try.func30, Try.ntmps30
  go_wp2_with (with_reducible refine wpList_load_part (o := ⟨some 6, _, _, _, _, _⟩) rfl 40 _ rfl w.heap.size 0 rfl (ndCells n) _ HL.out Try.underlying40 rfl HI.out ?_)
  refine (rplaces_calls n _).mono ?_
  rintro e w1 ⟨v, rfl, hv, hB⟩
  have hb1 : Blk w1 w.heap.size (ndCells n) 40 := (hB.block _ (by simp)).trans HB0.out
  have hBw : Below w.heap.size w w1 := ((Below.refl _ w).alloc (Nat.le_refl _) _).trans (hB.mono (by simp))
  have hs1 : w.heap.size + 1 ≤ w1.heap.size := by have := hB.size; simp at this; exact this
  rw [places_eq, List.length_map, List.map_map] at hv
  have hl8 := plN_len n
  have HVL := Lib.hid (show n.valid.length = (plN n).length by simp [Nd.valid])
  rcases own_cases hv with ⟨h0, a, c, rfl⟩ | ⟨hpos, g, cap, rfl, hg1, hg2, hg3, hg4, hg5, hg6⟩
  · have hv0 : n.valid = [] := by unfold Nd.valid; rw [List.eq_nil_of_length_eq_zero h0]; rfl
    have HV0 := Lib.hid hv0
    have HBw := Lib.hid hBw
    clear hv0 h0 hv hB hBw
    go_wp2_with (fail)
    refine wp_loop_rounds 1 ?_
    rw [rounds_succ]
    go_wp2_with (fail)
    go_ret
    exact ⟨_, rfl, by rw [HV0.out]; exact World.ownsRow_nil _ _ _ _, HBw.out⟩
  · have HG := Lib.hid hg5
    have HBw := Lib.hid hBw
    have HB1 := Lib.hid hb1
    clear hv hB hBw hb1 hg5 hg6
    go_wp2_with (fail)
    go_loopw [3, 5] (fun ov iv wr => ∃ k : Nat, k ≤ (plN n).length ∧ iv = .int .i64 k ∧ wr.ownsRow w1.heap.size 113 2 ov k (ecells (n.valid.take k)) ∧ Below w1.heap.size w1 wr) (fun _ iv _ => (plN n).length - (intOf iv).toNat)
    case atStart => exact ⟨0, Nat.zero_le _, rfl, World.ownsRow_nil _ _ _ _, Below.refl _ _⟩
    case round =>
      obtain ⟨k, hk, rfl, hown, hBr⟩ := hrel
      by_cases hlt : k < (plN n).length
      · obtain ⟨j, hj⟩ : ∃ j, j = (plN n)[k] := ⟨_, rfl⟩
        have hjm : j ∈ plN n := by rw [hj]; exact List.getElem_mem _
        have hjl := plN_lt n j hjm
        have hl := n.len_le
        have hj8 : j < 8 := by omega
        have cv : wr.cell? ⟨g, k, none⟩ = some (.int .i64 j) := by
          rw [hBr.cell (p := ⟨g, k, none⟩) hg2, HG.out k hlt]; simp [hlt, hj]
        have hb : Blk wr w.heap.size (ndCells n) 40 := (hBr.block _ (by omega)).trans HB1.out
        have ck : wr.cell? ⟨w.heap.size, 5 + j, none⟩ = some (.int .u64 (n.k j)) := by rw [hb.cell, ndCells_k n j hj8]
        have cp : wr.cell? ⟨w.heap.size, 13 + j, none⟩ = some (.int .u64 (n.p j)) := by rw [hb.cell, ndCells_p n j hj8]
        have htk : n.valid.take (k + 1) = n.valid.take k ++ [(n.k j, n.p j)] := by
          rw [List.take_succ_eq_append_getElem (by unfold Nd.valid; simpa using hlt)]; simp [Nd.valid, hj]
        have HTK := Lib.hid htk
        have b1 : (j : Int) < 8 := by omega
        have lb : w.heap.size < wr.heap.size := hb.lt
        have hb8 : k ≤ 8 := by omega
        have ab : u3.ownBlock ≠ some w.heap.size := fun e => by have := own_base hown _ e; omega
        have ag : u3.ownBlock ≠ some g := fun e => by have := own_base hown _ e; omega
        have hBs := Lib.hid hBr
        have hsz : w1.heap.size ≤ wr.heap.size := hBr.size
        have lg : g < wr.heap.size := by omega
        clear htk hj hjm hb hBr
        go_wp2_with (fail)
        go_region_held3 (fun w' => w'.cell? ⟨w.heap.size, 5 + j, none⟩ = some (.int .u64 (n.k j)) ∧ w'.cell? ⟨w.heap.size, 13 + j, none⟩ = some (.int .u64 (n.p j)) ∧ w'.cell? ⟨g, k, none⟩ = some (.int .i64 j))
          (first
            | go_keep
            | (go_split_ands
               refine ⟨?_, ?_, ?_⟩
               · (rw [hgrow.cell_far _ (by simp; omega) (Ne.symm ab)]; assumption)
               · (rw [hgrow.cell_far _ (by simp; omega) (Ne.symm ab)]; assumption)
               · (rw [hgrow.cell_far _ (by simp; omega) (Ne.symm ag)]; assumption)))
          ((refine step_append_lies _ (by rfl) _ _ _ (by rfl) w1.heap.size 113 i0 _ 2 16 Try.underlying81 hi hz0 hz1 hz2 rfl (by omega) u3 k _ (by rfl) ((hown.alloc _).drew)
              ⟨wr.heap.size, 0, none⟩ 1 1 [.int .u64 (n.k j), .int .u64 (n.p j)] (by rfl) (by rfl) (World.news_of_block (cs := #[.int .u64 (n.k j), .int .u64 (n.p j)]) (t := 113) (fr := (0, 0)) (heap_alloc_new wr _)) (by simp [Value.oneCell'])
              (by omega) (by unfold maxLen; omega) (by omega) (by simp; omega) (wr.heap.size + 1) (by simp) ?_; intro gg cap2 w4 hown4 hgrow hat hlt2))
        all_goals (go_wp2_with (fail))
        go_roundw
        case rel =>
          refine ⟨k + 1, by omega, by go_num, ?_, ?_⟩
          · rw [HTK.out, ecells_snoc]; exact hown4
          · exact ((hBs.out.alloc hsz (.cells #[.int .u64 (n.k j), .int .u64 (n.p j)] 113)).drew).grown hgrow (by simp; omega) (fun r e => own_base hown _ e)
        case measure => simp [intOf]; omega
      · have HVE := Lib.hid (show n.valid.take k = n.valid ∧ n.valid.length = k from ⟨List.take_of_length_le (by have := HVL.out; omega), by have := HVL.out; omega⟩)
        have HO := Lib.hid hown
        have HF := Lib.hid (HBw.out.trans (hBr.mono (by omega)))
        clear hown hBr
        go_wp2_with (fail)
        go_ret
        exact ⟨_, rfl, by have := own_mono HO.out (show w.heap.size ≤ w1.heap.size by omega); rw [HVE.out.1] at this; rw [HVE.out.2]; exact this, HF.out⟩
end Go.Proofs.Ytgmbnoimlffgcaa
