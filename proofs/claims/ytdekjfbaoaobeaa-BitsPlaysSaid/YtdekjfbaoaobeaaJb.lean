/-
  The document's Bits and May: contracts; the law BitsLowest, walked.
-/
import Derived.Test.YtdekjfbaoaobeaaKn
import Derived.Maps.AppendAt
import Derived.Laws.OwnMore
namespace Go.Proofs.Ytdekjfbaoaobeaa
open Go.RowKit

theorem Try.info_int : (Try.prog.info? 3).map (fun i => (i.zero, i.size, i.bytes)) = some (some (.int .i64 0), 1, 8) := by kernel_rfl

theorem bitsTo_lt (m k : Nat) : ∀ x ∈ bitsTo m k, 0 ≤ x ∧ x < k := by
  intro x hx
  simp only [bitsTo, List.mem_map, List.mem_filter, List.mem_range] at hx
  obtain ⟨i, ⟨hi, _⟩, rfl⟩ := hx
  omega
theorem bitsTo_sorted (m : Nat) : ∀ k, (bitsTo m k).Pairwise (· < ·) := by
  intro k
  induction k with
  | zero => simp [bitsTo]
  | succ k ih =>
    cases h : m.testBit k
    · rw [bitsTo_no h]; exact ih
    · rw [bitsTo_yes h]
      refine List.pairwise_append.2 ⟨ih, by simp, fun a ha b hb => ?_⟩
      rw [List.mem_singleton] at hb; subst hb
      exact (bitsTo_lt m k a ha).2
theorem may_last (m : Nat) (n : Int) (h : bitsL m ≠ []) : mayB m n = decide ((bitsL m).getD ((bitsL m).length - 1) 0 < n) := by
  have hs := bitsTo_sorted m 64
  obtain ⟨ys, x, e⟩ : ∃ ys x, bitsL m = ys ++ [x] := ⟨_, _, (List.dropLast_concat_getLast h).symm⟩
  change (bitsL m).Pairwise (· < ·) at hs
  unfold mayB
  rw [e] at hs ⊢
  have hp := (List.pairwise_append.1 hs).2.2
  rw [show (ys ++ [x]).getD ((ys ++ [x]).length - 1) 0 = x by simp]
  by_cases hx : x < n
  · rw [decide_eq_true hx, List.all_eq_true]
    intro y hy
    rcases List.mem_append.1 hy with h1 | h1
    · have := hp y h1 x (by simp); exact decide_eq_true (by omega)
    · rw [List.mem_singleton] at h1; subst h1; exact decide_eq_true hx
  · rw [decide_eq_false hx, List.all_eq_false]
    exact ⟨x, by simp, by simpa using hx⟩

set_option maxRecDepth 100000 in
set_option maxHeartbeats 1000000 in
theorem rbits_v (m : Nat) (hm : m < 18446744073709551616) (w : World) : Calls Try.prog 20 #[.int .u64 m] w fun e w' => ∃ v, e = .returned v ∧ w'.ownsRow w.heap.size 3 1 v (bitsL m).length ((bitsL m).map (Value.int .i64)) ∧ Below w.heap.size w w' := by
  obtain ⟨i0, hi, hz0, hz1, hz2⟩ := info_parts Try.info_int
  go_enter Try.func20, Try.ntmps20
  go_wp2_with (fail)
  go_loopw [3, 4] (fun ov kv wr => ∃ k : Nat, k ≤ 64 ∧ kv = .int .i64 k ∧ wr.ownsRow w.heap.size 3 1 ov (bitsTo m k).length ((bitsTo m k).map (Value.int .i64)) ∧ Below w.heap.size w wr) (fun _ kv _ => 64 - (intOf kv).toNat)
  case atStart => exact ⟨0, by omega, rfl, World.ownsRow_nil _ _ _ _, Below.refl _ _⟩
  case round =>
    obtain ⟨k, hk, rfl, hown, hB⟩ := hrel
    by_cases hlt : k < 64
    · have b1 : (k : Int) < 64 := by omega
      have HH := Lib.hid (rhas_k m hm k wr)
      have hlen := bitsTo_len m k
      have HL := Lib.hid hlen
      have hBs := hB.size
      cases hb : m.testBit k
      · rw [hb] at HH
        have HE := Lib.hid (bitsTo_no hb)
        have HO := Lib.hid hown
        clear hb hlen hown
        go_wp2_with (go_at_call 14; refine HH.out.mono ?_; rintro e w2 ⟨rfl, rfl⟩)
        go_roundw
        case rel => exact ⟨k + 1, by omega, by go_num, by rw [HE.out]; exact HO.out, hB⟩
        case measure => simp [intOf]; omega
      · rw [hb] at HH
        have HE := Lib.hid (bitsTo_yes hb)
        clear hb hlen
        go_wp2_with (fail)
        refine HH.out.mono ?_
        rintro e w2 ⟨rfl, rfl⟩
        go_wp2_with (at_builtin; refine wpList_append_own _ rfl _ _ 29 rfl w.heap.size 3 i0 (.int .i64 0) 1 8 Try.underlying29 hi hz0 hz1 hz2 rfl (by decide) _ _ _ rfl (hown.alloc _) ⟨wr.heap.size, 0, none⟩ 1 1 [.int .i64 k] rfl rfl (cell_one_new _ _ _) (ints_oneCell .i64 [(k : Int)]) (by have := HL.out; unfold maxLen; omega) (by have := HL.out; omega) (by simp; omega) ?_)
        intro v' w2 hown' hgrow hnil
        have HO := Lib.hid hown'
        have HB2 := Lib.hid ((hB.alloc hBs (.cells #[.int .i64 k] 3)).grown hgrow (by simp; omega) (fun r e => own_base hown _ e))
        clear hown' hgrow hnil hB hown
        go_wp2_with (fail)
        go_roundw
        case rel => exact ⟨k + 1, by omega, by go_num, by rw [HE.out, List.length_append, List.map_append]; exact HO.out, HB2.out⟩
        case measure => simp [intOf]; omega
    · have hk2 : k = 64 := by omega
      subst hk2
      have HO := Lib.hid hown
      clear hown
      go_wp2_with (fail)
      go_ret
      exact ⟨_, rfl, HO.out, hB⟩

set_option maxRecDepth 100000 in
set_option maxHeartbeats 1000000 in
theorem rmay_v (m : Nat) (hm : m < 18446744073709551616) (n : Int) (w : World) : Calls Try.prog 19 #[.int .u64 m, .int .i64 n] w fun e w' => e = .returned (.bool (mayB m n)) ∧ Below w.heap.size w w' := by
  have HB := Lib.hid (rbits_v m hm w)
  by_cases h0 : bitsL m = []
  · have HM := Lib.hid (show mayB m n = true by unfold mayB; rw [h0]; rfl)
    rw [h0] at HB
    clear h0
    go_enter Try.func19, Try.ntmps19
    go_wp2_with (fail)
    refine HB.out.mono ?_
    rintro e w2 ⟨v, rfl, hown, hB2⟩
    obtain ⟨a, l, c, rfl⟩ := own_slice hown
    have hl := own_len hown
    simp [lenOf] at hl
    subst hl
    clear hown
    go_wp2_with (fail)
    go_ret
    exact ⟨by rw [HM.out]; rfl, hB2⟩
  · have HM := Lib.hid (may_last m n h0)
    have hlen := bitsTo_len m 64
    change (bitsL m).length ≤ 64 at hlen
    have hpos : 0 < (bitsL m).length := List.length_pos_iff.2 h0
    generalize bitsL m = L at *
    clear h0
    go_enter Try.func19, Try.ntmps19
    go_wp2_with (fail)
    refine HB.out.mono ?_
    rintro e w2 ⟨v, rfl, hown, hB2⟩
    obtain ⟨g, cap, rfl, _, _, h3, h4, _, h6, _⟩ := own_shape hown hpos
    have c1 := h6 (L.length - 1) (by omega)
    obtain ⟨t, ht⟩ : ∃ t, L.length = t + 1 := ⟨L.length - 1, by omega⟩
    rw [ht, Nat.add_sub_cancel] at HM
    obtain ⟨x, hx⟩ : ∃ x, L.getD t 0 = x := ⟨_, rfl⟩
    rw [hx] at HM
    have c2 : w2.cell? ⟨g, t, none⟩ = some (.int .i64 x) := by
      have := h6 t (by omega)
      rw [this, ← hx]; simp [show t < L.length by omega]
    have q1 : IntKind.i64.wrap ((L.length : Int) - 1) = (t : Int) := by rw [show (L.length : Int) - 1 = (t : Int) by omega]; exact IntWalk.i64_in _ (by omega)
    have b1 : (t : Int) < (L.length : Int) := by omega
    have b2 : ¬ ((L.length : Int) = 0) := by omega
    have b3 : ((t : Int)).toNat = t := by omega
    have HB2 := Lib.hid hB2
    have b4 : 0 ≤ (t : Int) := by omega
    generalize L.length = q at *
    clear hown c1 h6 hx ht hB2 hpos hlen
    go_wp2_with (fail)
    go_ret
    refine ⟨?_, HB2.out⟩
    show Ending.returned (.bool ((((q : Nat) : Int) == 0) || decide (x < n))) = _
    rw [HM.out, beq_eq_false_iff_ne.2 b2]
    rfl

theorem low_law (m : Nat) (hm : m < 18446744073709551616) (n : Int) (w : World) :
    Calls Try.prog 4 #[.int .u64 m, .int .i64 n] w fun e w' => e = .returned (.bool true) ∧ Below w.heap.size w w' := by
  have HL := Lib.hid (low_v m hm n)
  have HR := Lib.hid (rlow_v m hm n)
  have HM := Lib.hid (may_calls m hm n)
  have RM := Lib.hid (rmay_v m hm n)
  generalize mayB m n = hh at *
  go_enter Try.func4, Try.ntmps4
  go_wp2_with (fail)
  refine (HL.out _).mono ?_
  rintro e w2 ⟨⟨r, hr, rfl⟩, rfl⟩
  have HRR := Lib.hid (fun r' (h : LowR m n r') => hr.uniq h)
  have h1 : r = -1 ∨ 0 ≤ r := by rcases hr with ⟨rfl, _⟩ | ⟨j, rfl, _⟩ <;> omega
  clear hr
  rcases h1 with rfl | h1
  · go_wp2_with (fail)
    refine (HR.out _).mono ?_
    rintro e w2 ⟨⟨r', hr', rfl⟩, rfl⟩
    obtain rfl := HRR.out _ hr'
    clear hr'
    go_wp2_with (first
      | (go_at_call 18; refine (HM.out _).mono ?_; rintro e w3 ⟨rfl, hB3⟩; have HB3 := Lib.hid hB3; clear hB3)
      | (go_at_call 19; refine (RM.out _).mono ?_; rintro e w4 ⟨rfl, hB4⟩; have HB4 := Lib.hid hB4; clear hB4)
      | (go_at_call 15; refine (known_any _).mono ?_; rintro e w5 ⟨rfl, hk⟩; have HK := Lib.hid hk; clear hk))
    go_ret
    exact ⟨rfl, (HB3.out.trans (HB4.out.mono HB3.out.size)).trans (HK.out.mono (Nat.le_trans HB3.out.size HB4.out.size))⟩
  · have h2 : max r 0 = r := by omega
    have h3 : decide (0 ≤ r) = true := decide_eq_true h1
    rw [h2, h3]
    go_wp2_with (fail)
    refine (HR.out _).mono ?_
    rintro e w2 ⟨⟨r', hr', rfl⟩, rfl⟩
    obtain rfl := HRR.out _ hr'
    clear hr'
    go_wp2_with (first
      | (go_at_call 18; refine (HM.out _).mono ?_; rintro e w3 ⟨rfl, hB3⟩; have HB3 := Lib.hid hB3; clear hB3)
      | (go_at_call 19; refine (RM.out _).mono ?_; rintro e w4 ⟨rfl, hB4⟩; have HB4 := Lib.hid hB4; clear hB4)
      | (go_at_call 15; refine (known_any _).mono ?_; rintro e w5 ⟨rfl, hk⟩; have HK := Lib.hid hk; clear hk))
    go_ret
    exact ⟨rfl, (HB3.out.trans (HB4.out.mono HB3.out.size)).trans (HK.out.mono (Nat.le_trans HB3.out.size HB4.out.size))⟩
end Go.Proofs.Ytdekjfbaoaobeaa
