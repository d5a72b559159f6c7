/-
  THE REFERENCE's Len, Is, Places, Invalid, Find, Last: contracts.
-/
import Derived.Test.YtgmbnoimlffgcaaPl
import Derived.StillTactics
import Derived.Deep.RegionHeld3
import Derived.Deep.AppendLies
import Derived.WalkSpells
import Derived.BigQuiet
import Derived.Deep.QuietTactic
namespace Go.Proofs.Ytgmbnoimlffgcaa
open Go.RowKit

def plN (n : Nd) : List Nat := (List.range n.len).filter (fun i => n.p i != n.ahead i)
theorem places_eq (n : Nd) : n.places = (plN n).map (fun (i : Nat) => (i : Int)) := by
  unfold Nd.places plc Nd.ents plN
  rw [List.filter_map, List.map_map]
  rfl
theorem plN_lt (n : Nd) (i : Nat) (h : i ∈ plN n) : i < n.len := by
  unfold plN at h; simp at h; exact h.1
theorem plN_len (n : Nd) : (plN n).length ≤ 8 := by
  have h1 : (plN n).length ≤ (List.range n.len).length := List.length_filter_le _ _
  have := n.len_le
  simp at h1; omega
def Nd.valid (n : Nd) : List (Int × Int) := (plN n).map (fun i => (n.k i, n.p i))
theorem Try.info60 : (Try.prog.info? 113).map (fun i => (i.zero, i.size, i.bytes)) = some (some (.agg #[.int .u64 0, .int .u64 0]), 2, 16) := by kernel_rfl
set_option maxRecDepth 100000 in
set_option maxHeartbeats 1000000 in
theorem valid_calls (n : Nd) (w : World) :
    Calls Try.prog 101 #[.agg (ndCells n)] w fun e W' => ∃ v, e = .returned v ∧ W'.ownsRow w.heap.size 113 2 v n.valid.length (ecells n.valid) ∧ Below w.heap.size w W' := by
  obtain ⟨i0, hi, hz0, hz1, hz2⟩ := info_parts Try.info60
  have hb0 := Blk.new w (ndCells n) 40
  have hi27 : (Try.prog.info? 40).map (·.size) = some (ndCells n).size := by rw [ndCells_size]; kernel_rfl
  have HI := Lib.hid hi27
  clear hi27
  have HL := Lib.hid (show ∀ j v, (ndCells n)[j]? = some v → (w.alloc (.cells (ndCells n) 40)).cell? ⟨w.heap.size, 0 + j, none⟩ = some v from fun j v hv => by
    rw [Nat.zero_add, hb0.cell]; exact hv)
  have HB0 := Lib.hid hb0
  clear hb0
  go_enter Try.func101, Try.ntmps101
  go_wp2_with (with_reducible refine wpList_load_part (o := ⟨some 5, _, _, _, _, _⟩) rfl 40 _ rfl w.heap.size 0 rfl (ndCells n) _ HL.out Try.underlying40 rfl HI.out ?_)
  refine (places_calls n _).mono ?_
  rintro e w1 ⟨v, rfl, hv, hB⟩
  have hb1 : Blk w1 w.heap.size (ndCells n) 40 := (hB.block _ (by simp)).trans HB0.out
  have hBw : Below w.heap.size w w1 := ((Below.refl _ w).alloc (Nat.le_refl _) _).trans (hB.mono (by simp))
  have hs1 : w.heap.size + 1 ≤ w1.heap.size := by have := hB.size; simp at this; exact this
  rw [places_eq, List.length_map, List.map_map] at hv
  have hl8 := plN_len n
  rcases own_cases hv with ⟨h0, a, c, rfl⟩ | ⟨hpos, g, cap, rfl, hg1, hg2, hg3, hg4, hg5, hg6⟩
  · have hv0 : n.valid = [] := by unfold Nd.valid; rw [List.eq_nil_of_length_eq_zero h0]; rfl
    have HV0 := Lib.hid hv0
    have HBw := Lib.hid hBw
    clear hv0 h0 hv hB hBw
    go_wp2_with (fail)
    refine wp_loop_rounds 1 ?_
    rw [rounds_succ]
    go_wp2_with (fail)
    go_ret
    exact ⟨_, rfl, by rw [HV0.out]; exact World.ownsRow_nil _ _ _ _, HBw.out⟩
  · have HG := Lib.hid hg5
    have HBw := Lib.hid hBw
    have HB1 := Lib.hid hb1
    clear hv hB hBw hb1 hg5 hg6
    go_wp2_with (fail)
    go_loopw [2, 8] (fun ov iv wr => ∃ k : Nat, k ≤ (plN n).length ∧ iv = .int .i64 k ∧ wr.ownsRow w1.heap.size 113 2 ov k (ecells (n.valid.take k)) ∧ Below w1.heap.size w1 wr) (fun _ iv _ => (plN n).length - (intOf iv).toNat)
    case atStart => exact ⟨0, Nat.zero_le _, rfl, World.ownsRow_nil _ _ _ _, Below.refl _ _⟩
    case round =>
      obtain ⟨k, hk, rfl, hown, hBr⟩ := hrel
      by_cases hlt : k < (plN n).length
      · obtain ⟨j, hj⟩ : ∃ j, j = (plN n)[k] := ⟨_, rfl⟩
        have hjm : j ∈ plN n := by rw [hj]; exact List.getElem_mem _
        have hjl := plN_lt n j hjm
        have hl := n.len_le
        have hj8 : j < 8 := by omega
        have cv : wr.cell? ⟨g, k, none⟩ = some (.int .i64 j) := by
          rw [hBr.cell (p := ⟨g, k, none⟩) hg2, HG.out k hlt]; simp [hlt, hj]
        have hb : Blk wr w.heap.size (ndCells n) 40 := (hBr.block _ (by omega)).trans HB1.out
        have ck : wr.cell? ⟨w.heap.size, 5 + j, none⟩ = some (.int .u64 (n.k j)) := by rw [hb.cell, ndCells_k n j hj8]
        have cp : wr.cell? ⟨w.heap.size, 13 + j, none⟩ = some (.int .u64 (n.p j)) := by rw [hb.cell, ndCells_p n j hj8]
        have htk : n.valid.take (k + 1) = n.valid.take k ++ [(n.k j, n.p j)] := by
          rw [List.take_succ_eq_append_getElem (by unfold Nd.valid; simpa using hlt)]; simp [Nd.valid, hj]
        have HTK := Lib.hid htk
        have b1 : (j : Int) < 8 := by omega
        have lb : w.heap.size < wr.heap.size := hb.lt
        have hvl : n.valid.length = (plN n).length := by simp [Nd.valid]
        have HVL := Lib.hid hvl
        have hb8 : k ≤ 8 := by omega
        have ab : u2.ownBlock ≠ some w.heap.size := fun e => by have := own_base hown _ e; omega
        have hBs := Lib.hid hBr
        have hsz : w1.heap.size ≤ wr.heap.size := hBr.size
        clear htk hj hjm hb hvl hBr
        go_wp2_with (fail)
        go_region_held3 (fun w' => w'.cell? ⟨w.heap.size, 5 + j, none⟩ = some (.int .u64 (n.k j)) ∧ w'.cell? ⟨w.heap.size, 13 + j, none⟩ = some (.int .u64 (n.p j)))
          (first
            | go_keep
            | (go_split_ands
               refine ⟨?_, ?_⟩
               · (rw [hgrow.cell_far _ (by simp; omega) (Ne.symm ab)]; assumption)
               · (rw [hgrow.cell_far _ (by simp; omega) (Ne.symm ab)]; assumption)))
          ((refine step_append_lies _ (by rfl) _ _ _ (by rfl) w1.heap.size 113 i0 _ 2 16 Try.underlying81 hi hz0 hz1 hz2 rfl (by omega) u2 k _ (by rfl) ((hown.alloc _).drew)
              ⟨wr.heap.size, 0, none⟩ 1 1 [.int .u64 (n.k j), .int .u64 (n.p j)] (by rfl) (by rfl) (World.news_of_block (cs := #[.int .u64 (n.k j), .int .u64 (n.p j)]) (t := 113) (fr := (0, 0)) (heap_alloc_new wr _)) (by simp [Value.oneCell'])
              (by omega) (by unfold maxLen; omega) (by omega) (by simp; omega) (wr.heap.size + 1) (by simp) ?_; intro gg cap2 w4 hown4 hgrow hat hlt2))
        all_goals (go_wp2_with (fail))
        go_roundw
        case rel =>
          refine ⟨k + 1, by omega, by go_num, ?_, ?_⟩
          · rw [HTK.out, ecells_snoc]; exact hown4
          · exact ((hBs.out.alloc hsz (.cells #[.int .u64 (n.k j), .int .u64 (n.p j)] 113)).drew).grown hgrow (by simp; omega) (fun r e => own_base hown _ e)
        case measure => simp [intOf]; omega
      · have HVE := Lib.hid (show n.valid.take k = n.valid ∧ n.valid.length = k by
          have : n.valid.length = (plN n).length := by simp [Nd.valid]
          exact ⟨List.take_of_length_le (by omega), by omega⟩)
        have HO := Lib.hid hown
        have HF := Lib.hid (HBw.out.trans (hBr.mono (by omega)))
        clear hown hBr
        go_wp2_with (fail)
        go_ret
        exact ⟨_, rfl, by have := own_mono HO.out (show w.heap.size ≤ w1.heap.size by omega); rw [HVE.out.1] at this; rw [HVE.out.2]; exact this, HF.out⟩
end Go.Proofs.Ytgmbnoimlffgcaa
namespace Go.Proofs.Ytgmbnoimlffgcaa
open Go.RowKit

theorem ndLoad {w : World} {b : Nat} {n : Nd} (hb : Blk w b (ndCells n) 40) : ∀ j v, (ndCells n)[j]? = some v → w.cell? ⟨b, 0 + j, none⟩ = some v := by
  intro j v hv; rw [Nat.zero_add, hb.cell]; exact hv
theorem info27 (n : Nd) : (Try.prog.info? 40).map (·.size) = some (ndCells n).size := by rw [ndCells_size]; kernel_rfl
theorem Blk.below {w w' : World} {B b : Nat} {C : Array Value} {t : TypeId} (h : Blk w b C t) (hB : Below B w w') (hb : b < B) : Blk w' b C t := (hB.block b hb).trans h
def Nd.ok (n : Nd) (i : Nat) : Bool := n.p i != n.ahead i

theorem rlen_calls (n : Nd) (w : World) : Calls Try.prog 29 #[.agg (ndCells n)] w fun e W' => e = .returned (.int .i64 n.len) ∧ Below w.heap.size w W' := by
  have hb := Blk.new w (ndCells n) 40
  have HC := Lib.hid (fun i (h : i < 8) => show (w.alloc (.cells (ndCells n) 40)).cell? ⟨w.heap.size, 13 + i, none⟩ = some (.int .u64 (n.p i)) by rw [hb.cell, ndCells_p n i h])
  clear hb
  go_enter Try.func29, Try.ntmps29
  go_wp2_with (fail)
  go_loop [3] (fun i => ∃ k : Nat, k ≤ n.len ∧ i = .int .i64 k) (fun i => 9 - (intOf i).toNat)
  case atStart => exact ⟨0, Nat.zero_le _, rfl⟩
  case round =>
    obtain ⟨k, hk, rfl⟩ := hrel
    have hl := n.len_le
    by_cases h8 : k < 8
    · have hc := HC.out k h8
      by_cases hz : n.p k = 0
      · have he : k = n.len := by
          rcases Nat.lt_or_ge k n.len with h | h
          · exact absurd hz (n.p_lt k h)
          · omega
        have HE := Lib.hid he
        rw [hz] at hc
        clear hz he
        go_wp2_with (fail)
        go_ret
        exact ⟨by rw [← HE.out]; rfl, (Below.refl _ w).alloc (Nat.le_refl _) _⟩
      · have hkl : k < n.len := by
          rcases Nat.lt_or_ge k n.len with h | h
          · exact h
          · exact absurd (by rw [show k = n.len by omega] at h8 ⊢; exact n.p_len h8) hz
        obtain ⟨y, hy⟩ : ∃ y, y = n.p k := ⟨_, rfl⟩
        rw [← hy] at hc hz
        have hz' : (y != 0) = true := by simpa using hz
        clear hy hz
        go_wp2_with (fail)
        go_round
        case rel => exact ⟨k + 1, by omega, by go_num⟩
        case measure => simp [intOf]; omega
    · have he : k = n.len := by omega
      have HE := Lib.hid he
      clear he
      go_wp2_with (fail)
      go_ret
      exact ⟨by rw [← HE.out]; rfl, (Below.refl _ w).alloc (Nat.le_refl _) _⟩

theorem ris_calls (n : Nd) (i : Nat) (h : i < 8) (w : World) : Calls Try.prog 49 #[.agg (ndCells n), .int .i64 i] w fun e W' => e = .returned (.bool (n.ok i)) ∧ Below w.heap.size w W' := by
  have hb := Blk.new w (ndCells n) 40
  have HW := Lib.hid ((Below.refl w.heap.size w).alloc (Nat.le_refl _) (.cells (ndCells n) 40))
  have c0 : (w.alloc (.cells (ndCells n) 40)).cell? ⟨w.heap.size, 4, none⟩ = some (.int .u64 n.fi) := by rw [hb.cell, ndCells_4]
  have ci : (w.alloc (.cells (ndCells n) 40)).cell? ⟨w.heap.size, 13 + i, none⟩ = some (.int .u64 (n.p i)) := by rw [hb.cell, ndCells_p n i h]
  cases i with
  | zero =>
    have fin : Hid (n.ok 0 = (n.p 0 != n.fi)) := rfl
    clear hb
    go_enter Try.func49, Try.ntmps49
    go_wp2_with (fail)
    go_ret
    exact ⟨by rw [fin.out]; rfl, HW.out⟩
  | succ i =>
    have fin : Hid (n.ok (i + 1) = (n.p (i + 1) != n.p i)) := rfl
    have cj : (w.alloc (.cells (ndCells n) 40)).cell? ⟨w.heap.size, 13 + i, none⟩ = some (.int .u64 (n.p i)) := by rw [hb.cell, ndCells_p n i (by omega)]
    have b1 : ((i : Int) + 1) < 8 := by omega
    have b2 : ((i : Int) + 1 == 0) = false := by simp; omega
    clear hb
    rw [show ((i + 1 : Nat) : Int) = (i : Int) + 1 from rfl]
    go_enter Try.func49, Try.ntmps49
    go_wp2_with (fail)
    go_quiet (fail)
    go_wp2_with (fail)
    go_ret
    exact ⟨by rw [fin.out]; rfl, by exact ⟨HW.out.os, HW.out.tape, HW.out.output, HW.out.size, HW.out.block⟩⟩

/-- the places of the valid ones of the first k -/
def plTo (n : Nd) (k : Nat) : List Int := ((List.range k).filter n.ok).map (fun (i : Nat) => (i : Int))
theorem plTo_succ (n : Nd) (k : Nat) : plTo n (k + 1) = if n.ok k then plTo n k ++ [(k : Int)] else plTo n k := by
  unfold plTo
  rw [List.range_succ, List.filter_append]
  cases h : n.ok k <;> simp [h]
theorem plTo_len (n : Nd) : plTo n n.len = n.places := by rw [places_eq]; rfl
theorem plTo_le (n : Nd) (k : Nat) : (plTo n k).length ≤ k := by
  have := List.length_filter_le n.ok (List.range k)
  simp only [plTo, List.length_map]; simpa using this

set_option maxHeartbeats 1000000 in
theorem rplaces_calls (n : Nd) (w : World) : Calls Try.prog 50 #[.agg (ndCells n)] w fun e W' => ∃ v, e = .returned v ∧ W'.ownsRow w.heap.size 3 1 v n.places.length (n.places.map (Value.int .i64)) ∧ Below w.heap.size w W' := by
  obtain ⟨i0, hi, hz0, hz1, hz2⟩ := info_parts Try.info3
  have HI := Lib.hid (info27 n)
  have HB0 := Lib.hid (Blk.new w (ndCells n) 40)
  have HW := Lib.hid ((Below.refl w.heap.size w).alloc (Nat.le_refl _) (.cells (ndCells n) 40))
  go_enter Try.func50, Try.ntmps50
  go_wp2_with (fail)
  obtain ⟨w0, hw0⟩ : ∃ w0, w0 = w.alloc (.cells (ndCells n) 40) := ⟨_, rfl⟩
  rw [← hw0] at HB0 HW ⊢
  have hs0 : w0.heap.size ≤ w.heap.size + 1 := by rw [hw0]; simp
  have hs1 : w.heap.size + 1 ≤ w0.heap.size := by rw [hw0]; simp
  clear hw0
  go_loopw [3, 4] (fun v iv wr => ∃ k : Nat, k ≤ n.len ∧ iv = .int .i64 k ∧ wr.ownsRow w0.heap.size 3 1 v (plTo n k).length ((plTo n k).map (Value.int .i64)) ∧ Below w0.heap.size w0 wr) (fun _ iv _ => 9 - (intOf iv).toNat)
  case atStart => exact ⟨0, Nat.zero_le _, rfl, World.ownsRow_nil _ _ _ _, Below.refl _ _⟩
  case round =>
    obtain ⟨k, hk, rfl, hown, hB⟩ := hrel
    have hl := n.len_le
    have HL := Lib.hid (ndLoad (HB0.out.below hB (by omega)))
    have HO := Lib.hid hown
    have HB := Lib.hid hB
    have hsz : w0.heap.size ≤ wr.heap.size := hB.size
    clear hown hB
    go_wp2_with (with_reducible refine wpList_load_part (o := ⟨some 6, _, _, _, _, _⟩) rfl 40 _ rfl w.heap.size 0 rfl (ndCells n) _ HL.out Try.underlying40 rfl HI.out ?_)
    refine (rlen_calls n _).mono ?_
    rintro e w2 ⟨rfl, hB2⟩
    have HB2 := Lib.hid (HB.out.trans (hB2.mono hsz))
    have HO2 := Lib.hid (show w2.ownsRow w0.heap.size 3 1 u3 (plTo n k).length ((plTo n k).map (Value.int .i64)) from by
      have hg : wr.grownBy w2 none := ⟨hB2.os, hB2.tape, hB2.output, hB2.size, fun j hj _ => hB2.block j hj⟩
      exact HO.out.kept hg (by cases h : u3.ownBlock <;> simp))
    have hsz2 : w0.heap.size ≤ w2.heap.size := HB2.out.size
    clear hB2 HO HL HB
    by_cases hlt : k < n.len
    · have hlt' : (k : Int) < (n.len : Int) := by omega
      have HL2 := Lib.hid (ndLoad (HB0.out.below HB2.out (by omega)))
      go_wp2_with (with_reducible refine wpList_load_part (o := ⟨some 11, _, _, _, _, _⟩) rfl 40 _ rfl w.heap.size 0 rfl (ndCells n) _ HL2.out Try.underlying40 rfl HI.out ?_)
      refine (ris_calls n k (by omega) _).mono ?_
      rintro e w3 ⟨rfl, hB3⟩
      have HB3 := Lib.hid (HB2.out.trans (hB3.mono hsz2))
      have hown3 : w3.ownsRow w0.heap.size 3 1 u3 (plTo n k).length ((plTo n k).map (Value.int .i64)) := by
        have hg : w2.grownBy w3 none := ⟨hB3.os, hB3.tape, hB3.output, hB3.size, fun j hj _ => hB3.block j hj⟩
        exact HO2.out.kept hg (by cases h : u3.ownBlock <;> simp)
      have hsz3 : w0.heap.size ≤ w3.heap.size := HB3.out.size
      have hs := plTo_succ n k
      have hpl := plTo_le n k
      cases ho : n.ok k
      · rw [ho] at hs
        have HS := Lib.hid hs
        have HO3 := Lib.hid hown3
        clear hs hown3 ho hB3 HO2 HL2
        go_wp2_with (fail)
        go_roundw
        case rel => exact ⟨k + 1, by omega, by go_num, by rw [HS.out]; exact HO3.out, HB3.out⟩
        case measure => simp [intOf]; omega
      · rw [ho, if_pos rfl] at hs
        have HS := Lib.hid hs
        clear hs ho hB3 HO2 HL2
        go_wp2_with (at_builtin; refine wpList_append_own _ rfl _ _ 110 rfl w0.heap.size 3 i0 (.int .i64 0) 1 8 Try.underlying110 hi hz0 hz1 hz2 rfl (by decide) _ _ _ rfl (hown3.alloc _) ⟨w3.heap.size, 0, none⟩ 1 1 [.int .i64 k] rfl rfl (cell_one_new _ _ _) (ints_oneCell .i64 [(k : Int)]) (by unfold maxLen; omega) (by omega) (by simp; omega) ?_)
        intro v' w4 hown4 hgrow hnil
        have HO4 := Lib.hid hown4
        have HB4 := Lib.hid ((HB3.out.alloc hsz3 (.cells #[.int .i64 k] 3)).grown hgrow (by simp; omega) (fun r e => own_base hown3 _ e))
        clear hown4 hgrow hnil hown3
        go_wp2_with (fail)
        go_roundw
        case rel => exact ⟨k + 1, by omega, by go_num, by rw [HS.out, List.length_append, List.map_append]; exact HO4.out, HB4.out⟩
        case measure => simp [intOf]; omega
    · have he : k = n.len := by omega
      have hlt' : ¬ (k : Int) < (n.len : Int) := by omega
      have HF := Lib.hid (show plTo n k = n.places by rw [he, plTo_len])
      clear he
      go_wp2_with (fail)
      go_ret
      exact ⟨_, rfl, by have := own_mono HO2.out (show w.heap.size ≤ w0.heap.size by omega); rw [HF.out] at this; exact this, HW.out.trans (HB2.out.mono (by omega))⟩
end Go.Proofs.Ytgmbnoimlffgcaa
