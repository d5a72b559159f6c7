/-
  Free's place, Has, Len: contracts.
-/
import Derived.Test.YtodgfbjjjgohgaaGreatHuQ
namespace Go.Proofs.YtodgfbjjjgohgaaGreat
open Go.RowKit

def DnP (n i0 b : Nat) (v : Value) (l : List Int) (e : Ending) (w w' : World) : Prop :=
  ∃ (m : Bool) (l' : List Int), e = .returned (.bool m) ∧ HeapV w' b v l' ∧ SameL n l l' ∧ (m = true → Hp n l') ∧ (m = false → i0 < n → UpOk n l' i0) ∧ HStep b v v w w'
theorem DnP.mk {n i0 b i : Nat} {v : Value} {l l' : List Int} {w w' : World} (hv : HeapV w' b v l') (hs : SameL n l l') (hd : DownOk n l' i0 i) (hst : HStep b v v w w') (hk : ∀ k, k < n → 0 < k → par k = i → l'.getD i 0 ≤ l'.getD k 0) :
    DnP n i0 b v l (.returned (.bool (decide (i0 < i)))) w w' := by
  have h := hd.stop hk
  have hge := hd.ge
  refine ⟨_, l', rfl, hv, hs, fun e => h.1 (by simpa using e), fun e hn => h.2 (by simp at e; omega) hn, hst⟩

theorem less_b (b : Nat) (v : Value) (l : List Int) (i j : Nat) (r : Bool) (hr : decide (l.getD i 0 < l.getD j 0) = r) (hi : i < l.length) (hj : j < l.length) (hn : l.length ≤ 1000000) :
    ∀ (w : World) (I J : Int), HeapV w b v l → I = (i : Int) → J = (j : Int) → Calls Tryz.prog 120 #[v, .int .i64 I, .int .i64 J] w fun e w' => e = .returned (.bool r) ∧ ∃ q, w' = w.drewN q := by
  rintro w _ _ h rfl rfl
  have := less_v b v l i j w h hi hj hn
  rwa [hr] at this
theorem swap_b (b : Nat) (v : Value) (l : List Int) (i j : Nat) (hi : i < l.length) (hj : j < l.length) (hn : l.length ≤ 1000000) :
    ∀ (w : World) (I J : Int), HeapV w b v l → I = (i : Int) → J = (j : Int) → Calls Tryz.prog 121 #[v, .int .i64 I, .int .i64 J] w fun e w' => e = .returned (.tuple #[]) ∧ HeapV w' b v (swpL l i j) ∧ HStep b v v w w' := by
  rintro w _ _ h rfl rfl
  exact swap_v b v l i j w h hi hj hn


set_option maxRecDepth 100000 in
set_option maxHeartbeats 4000000 in
theorem down_v (b : Nat) (v : Value) (l : List Int) (n i0 : Nat) (w : World) (h : HeapV w b v l) (hn : l.length ≤ 1000000) (hu : DownOk n l i0 i0) (hi : i0 ≤ 1000000) :
    Calls Tryz.prog 80 #[.iface 146 (.pointer (some ⟨b, 0, none⟩)), .int .i64 i0, .int .i64 n] w fun e w' => DnP n i0 b v l e w w' := by
  go_enter Tryz.func80, Tryz.ntmps80
  go_wp2_with (fail)
  go_loopw [7] (fun jv wr => ∃ (i' : Nat) (l' : List Int), jv = .int .i64 i' ∧ i' ≤ 1000000 ∧ HeapV wr b v l' ∧ SameL n l l' ∧ DownOk n l' i0 i' ∧ HStep b v v w wr) (fun jv _ => (n : Int).toNat - (intOf jv).toNat)
  case atStart => exact ⟨i0, l, rfl, hi, h, .refl _ _, hu, .refl _ _ _⟩
  case round =>
    obtain ⟨i', l', rfl, hib, hv, hs, hd, hst⟩ := hrel
    have hlen := hs.len
    have hnl := hd.nl
    have hc := hv.cell
    have HV := Lib.hid hv
    clear hv
    by_cases h1 : 2 * i' + 1 < n
    · have HT := Lib.hid hst
      have HSs := Lib.hid hs
      by_cases h2 : 2 * i' + 2 < n
      · have hp2 : ∀ k, 0 < k → par k = i' → k = 2 * i' + 1 ∨ k = 2 * i' + 2 := fun k h0 hp => by unfold par at hp; omega
        by_cases lj : l'.getD (2 * i' + 2) 0 < l'.getD (2 * i' + 1) 0
        · have L21 := Lib.hid (less_b b v l' (2 * i' + 2) (2 * i' + 1) true (by simpa using lj) (by omega) (by omega) (by omega))
          have hmin : ∀ k, k < n → 0 < k → par k = i' → l'.getD (2 * i' + 2) 0 ≤ l'.getD k 0 := fun k _ h0 hp => by rcases hp2 k h0 hp with rfl | rfl <;> omega
          clear hp2 lj
          have HD := Lib.hid hd
          by_cases hl : l'.getD (2*i'+2) 0 < l'.getD i' 0
          · have LI := Lib.hid (less_b b v l' (2*i'+2) i' true (by simpa using hl) (by omega) (by omega) (by omega))
            have LS := Lib.hid (swap_b b v l' i' (2*i'+2) (by omega) (by omega) (by omega))
            have HU := Lib.hid (hd.next (j := 2*i'+2) (by omega) (by omega) (by unfold par; omega) hmin hl)
            have HW := Lib.hid (SameL.swp n l' i' (2*i'+2) (by omega) (by omega) (by omega))
            clear hl hmin hd hs hst hu
            go_wp2_with (fail)
            rw [meth_less _ (by decide) wr b v hc]
            go_wp2_with (go_at_call 120; refine (L21.out _ _ _ HV.out (by omega) (by omega)).mono ?_; rintro e w2 ⟨rfl, q, rfl⟩)
            have HVq := Lib.hid (HV.out.drewN q)
            have hcq : (wr.drewN q).cell? ⟨b, 0, none⟩ = some v := hc
            rw [meth_less _ (by decide) (wr.drewN q) b v hcq]
            go_wp2_with (go_at_call 120; refine (LI.out _ _ _ HVq.out (by omega) (by omega)).mono ?_; rintro e w2 ⟨rfl, q2, rfl⟩)
            have HV2 := Lib.hid (HV.out.drewN (q+q2))
            have HT2 := Lib.hid (HT.out.drewN (q+q2))
            rw [meth_swap _ (by decide) _ b v HV2.out.cell]
            go_wp2_with (go_at_call 121; refine (LS.out _ _ _ HV2.out (by omega) (by omega)).mono ?_; rintro e w3 ⟨rfl, hv3, hst3⟩; have HV3 := Lib.hid hv3; have HT3 := Lib.hid hst3; clear hv3 hst3)
            go_roundw
            case rel => exact ⟨2*i'+2, _, by go_num, by omega, HV3.out, HSs.out.trans HW.out, HU.out, HT2.out.trans HT3.out⟩
            case measure => simp [intOf]; omega
          · have LI := Lib.hid (less_b b v l' (2*i'+2) i' false (by simpa using hl) (by omega) (by omega) (by omega))
            have HK := Lib.hid (show ∀ k, k < n → 0 < k → par k = i' → l'.getD i' 0 ≤ l'.getD k 0 from fun k h1 h2 h3 => by have := hmin k h1 h2 h3; omega)
            clear hl hmin hd hs hst hu
            go_wp2_with (fail)
            rw [meth_less _ (by decide) wr b v hc]
            go_wp2_with (go_at_call 120; refine (L21.out _ _ _ HV.out (by omega) (by omega)).mono ?_; rintro e w2 ⟨rfl, q, rfl⟩)
            have HVq := Lib.hid (HV.out.drewN q)
            have hcq : (wr.drewN q).cell? ⟨b, 0, none⟩ = some v := hc
            rw [meth_less _ (by decide) (wr.drewN q) b v hcq]
            go_wp2_with (go_at_call 120; refine (LI.out _ _ _ HVq.out (by omega) (by omega)).mono ?_; rintro e w2 ⟨rfl, q2, rfl⟩)
            go_ret
            exact DnP.mk (HV.out.drewN (q+q2)) HSs.out HD.out (HT.out.drewN (q+q2)) HK.out
        · have L21 := Lib.hid (less_b b v l' (2 * i' + 2) (2 * i' + 1) false (by simpa using lj) (by omega) (by omega) (by omega))
          have hmin : ∀ k, k < n → 0 < k → par k = i' → l'.getD (2 * i' + 1) 0 ≤ l'.getD k 0 := fun k _ h0 hp => by rcases hp2 k h0 hp with rfl | rfl <;> omega
          clear hp2 lj
          have HD := Lib.hid hd
          by_cases hl : l'.getD (2*i'+1) 0 < l'.getD i' 0
          · have LI := Lib.hid (less_b b v l' (2*i'+1) i' true (by simpa using hl) (by omega) (by omega) (by omega))
            have LS := Lib.hid (swap_b b v l' i' (2*i'+1) (by omega) (by omega) (by omega))
            have HU := Lib.hid (hd.next (j := 2*i'+1) (by omega) (by omega) (by unfold par; omega) hmin hl)
            have HW := Lib.hid (SameL.swp n l' i' (2*i'+1) (by omega) (by omega) (by omega))
            clear hl hmin hd hs hst hu
            go_wp2_with (fail)
            rw [meth_less _ (by decide) wr b v hc]
            go_wp2_with (go_at_call 120; refine (L21.out _ _ _ HV.out (by omega) (by omega)).mono ?_; rintro e w2 ⟨rfl, q, rfl⟩)
            have HVq := Lib.hid (HV.out.drewN q)
            have hcq : (wr.drewN q).cell? ⟨b, 0, none⟩ = some v := hc
            rw [meth_less _ (by decide) (wr.drewN q) b v hcq]
            go_wp2_with (go_at_call 120; refine (LI.out _ _ _ HVq.out (by omega) (by omega)).mono ?_; rintro e w2 ⟨rfl, q2, rfl⟩)
            have HV2 := Lib.hid (HV.out.drewN (q+q2))
            have HT2 := Lib.hid (HT.out.drewN (q+q2))
            rw [meth_swap _ (by decide) _ b v HV2.out.cell]
            go_wp2_with (go_at_call 121; refine (LS.out _ _ _ HV2.out (by omega) (by omega)).mono ?_; rintro e w3 ⟨rfl, hv3, hst3⟩; have HV3 := Lib.hid hv3; have HT3 := Lib.hid hst3; clear hv3 hst3)
            go_roundw
            case rel => exact ⟨2*i'+1, _, by go_num, by omega, HV3.out, HSs.out.trans HW.out, HU.out, HT2.out.trans HT3.out⟩
            case measure => simp [intOf]; omega
          · have LI := Lib.hid (less_b b v l' (2*i'+1) i' false (by simpa using hl) (by omega) (by omega) (by omega))
            have HK := Lib.hid (show ∀ k, k < n → 0 < k → par k = i' → l'.getD i' 0 ≤ l'.getD k 0 from fun k h1 h2 h3 => by have := hmin k h1 h2 h3; omega)
            clear hl hmin hd hs hst hu
            go_wp2_with (fail)
            rw [meth_less _ (by decide) wr b v hc]
            go_wp2_with (go_at_call 120; refine (L21.out _ _ _ HV.out (by omega) (by omega)).mono ?_; rintro e w2 ⟨rfl, q, rfl⟩)
            have HVq := Lib.hid (HV.out.drewN q)
            have hcq : (wr.drewN q).cell? ⟨b, 0, none⟩ = some v := hc
            rw [meth_less _ (by decide) (wr.drewN q) b v hcq]
            go_wp2_with (go_at_call 120; refine (LI.out _ _ _ HVq.out (by omega) (by omega)).mono ?_; rintro e w2 ⟨rfl, q2, rfl⟩)
            go_ret
            exact DnP.mk (HV.out.drewN (q+q2)) HSs.out HD.out (HT.out.drewN (q+q2)) HK.out
      · have hmin : ∀ k, k < n → 0 < k → par k = i' → l'.getD (2 * i' + 1) 0 ≤ l'.getD k 0 := fun k hk h0 hp => by
          have : k = 2 * i' + 1 := by unfold par at hp; omega
          subst this; omega
        have HD := Lib.hid hd
        by_cases hl : l'.getD (2*i'+1) 0 < l'.getD i' 0
        · have LI := Lib.hid (less_b b v l' (2*i'+1) i' true (by simpa using hl) (by omega) (by omega) (by omega))
          have LS := Lib.hid (swap_b b v l' i' (2*i'+1) (by omega) (by omega) (by omega))
          have HU := Lib.hid (hd.next (j := 2*i'+1) (by omega) (by omega) (by unfold par; omega) hmin hl)
          have HW := Lib.hid (SameL.swp n l' i' (2*i'+1) (by omega) (by omega) (by omega))
          clear hl hmin hd hs hst hu
          go_wp2_with (fail)
          have HVq := Lib.hid HV.out
          rw [meth_less _ (by decide) wr b v hc]
          go_wp2_with (go_at_call 120; refine (LI.out _ _ _ HVq.out (by omega) (by omega)).mono ?_; rintro e w2 ⟨rfl, q2, rfl⟩)
          have HV2 := Lib.hid (HV.out.drewN (q2))
          have HT2 := Lib.hid (HT.out.drewN (q2))
          rw [meth_swap _ (by decide) _ b v HV2.out.cell]
          go_wp2_with (go_at_call 121; refine (LS.out _ _ _ HV2.out (by omega) (by omega)).mono ?_; rintro e w3 ⟨rfl, hv3, hst3⟩; have HV3 := Lib.hid hv3; have HT3 := Lib.hid hst3; clear hv3 hst3)
          go_roundw
          case rel => exact ⟨2*i'+1, _, by go_num, by omega, HV3.out, HSs.out.trans HW.out, HU.out, HT2.out.trans HT3.out⟩
          case measure => simp [intOf]; omega
        · have LI := Lib.hid (less_b b v l' (2*i'+1) i' false (by simpa using hl) (by omega) (by omega) (by omega))
          have HK := Lib.hid (show ∀ k, k < n → 0 < k → par k = i' → l'.getD i' 0 ≤ l'.getD k 0 from fun k h1 h2 h3 => by have := hmin k h1 h2 h3; omega)
          clear hl hmin hd hs hst hu
          go_wp2_with (fail)
          have HVq := Lib.hid HV.out
          rw [meth_less _ (by decide) wr b v hc]
          go_wp2_with (go_at_call 120; refine (LI.out _ _ _ HVq.out (by omega) (by omega)).mono ?_; rintro e w2 ⟨rfl, q2, rfl⟩)
          go_ret
          exact DnP.mk (HV.out.drewN (q2)) HSs.out HD.out (HT.out.drewN (q2)) HK.out
    · have HD := Lib.hid (DnP.mk HV.out hs hd hst (fun k hk h0 hp => by unfold par at hp; omega))
      have HD2 := Lib.hid hd
      clear hd hs hst hu
      go_wp2_with (fail)
      go_ret
      exact HD.out
end Go.Proofs.YtodgfbjjjgohgaaGreat
namespace Go.Proofs.YtodgfbjjjgohgaaGreat
open Go.RowKit

theorem HeapV.popped {w : World} {b g cap : Nat} {l : List Int} {x : Int} (h : HeapV w b (.slice (some ⟨g, 0, none⟩) (l.length + 1) cap) (l ++ [x])) :
    HeapV (w.setCell ⟨b, 0, none⟩ (.slice (some ⟨g, 0, none⟩) l.length cap)) b (.slice (some ⟨g, 0, none⟩) l.length cap) l ∧
    HStep b (.slice (some ⟨g, 0, none⟩) (l.length + 1) cap) (.slice (some ⟨g, 0, none⟩) l.length cap) w (w.setCell ⟨b, 0, none⟩ (.slice (some ⟨g, 0, none⟩) l.length cap)) := by
  have hgb : g ≠ b := fun e => h.ne (by subst e; rfl)
  refine ⟨⟨h.blk.set 0 _, ownsRow_setCell_other ?_ (fun e => hgb (by simpa [Value.ownBlock] using e)) _, fun e => hgb (by simpa [Value.ownBlock] using e)⟩, ⟨(Keeps.refl _ w).setCell (.inl (.inl rfl)) _, .inl rfl⟩⟩
  obtain ⟨h1, ⟨e, _⟩ | ⟨g', cap', cur, e, hb, hg, hn, hc, hs, ht⟩⟩ := h.row
  · cases e
  · simp at e
    obtain ⟨rfl, rfl⟩ := e
    refine ⟨by simp, .inr ⟨g, cap, cur, rfl, hb, hg, by simp at hn; omega, hc, hs, ?_⟩⟩
    have : List.take (l.length * 1) (List.take ((l ++ [x]).length * 1) cur.toList) = l.map (Value.int .u64) := by rw [ht]; simp
    rwa [List.take_take, show min (l.length * 1) ((l ++ [x]).length * 1) = l.length * 1 by simp] at this

set_option maxRecDepth 100000 in
set_option maxHeartbeats 2000000 in
theorem pop_v (b : Nat) (v : Value) (l : List Int) (x : Int) (w : World) (h : HeapV w b v (l ++ [x])) (hn : l.length ≤ 1000000) :
    Calls Tryz.prog 122 #[.pointer (some ⟨b, 0, none⟩)] w fun e w' => e = .returned (.iface 39 (.int .u64 x)) ∧ ∃ v', HeapV w' b v' l ∧ HStep b v v' w w' := by
  obtain ⟨g, cap, rfl, _, hlc, hcm, _, hc, hf⟩ := h.pos (by simp)
  rw [show (l ++ [x]).length = l.length + 1 by simp] at *
  have H := Lib.hid h.popped
  have hcell := h.cell
  have hfb := h.blk.frozen 0
  have c1 := hc l.length (by omega)
  rw [show (l ++ [x]).getD l.length 0 = x by simp] at c1
  have q1 : IntKind.i64.wrap (((l.length + 1 : Nat) : Int) - 1) = (l.length : Int) := by rw [show ((l.length + 1 : Nat) : Int) - 1 = (l.length : Int) by omega]; exact IntWalk.i64_in _ (by omega)
  have b1 : ((l.length : Nat) : Int) < ((l.length + 1 : Nat) : Int) := by omega
  have b2 : (l.length : Int) ≤ (cap : Int) := by omega
  have b4 : ((l.length : Int)).toNat = l.length := by omega
  clear h hc hf
  go_enter Tryz.func122, Tryz.ntmps122
  go_wp2_with (fail)
  go_ret
  exact ⟨rfl, _, H.out.1, H.out.2⟩
end Go.Proofs.YtodgfbjjjgohgaaGreat
namespace Go.Proofs.YtodgfbjjjgohgaaGreat
open Go.RowKit

def PutP (b : Nat) (v : Value) (l : List Int) (x : Int) (w w' : World) : Prop := ∃ v' l', HeapV w' b v' l' ∧ Hp l'.length l' ∧ l'.Perm (x :: l) ∧ HStep b v v' w w'
def PopP (b : Nat) (v : Value) (l : List Int) (x : Int) (w w' : World) : Prop := ∃ v' l', HeapV w' b v' l' ∧ Hp l'.length l' ∧ l.Perm (x :: l') ∧ HStep b v v' w w'

set_option maxRecDepth 100000 in
set_option maxHeartbeats 2000000 in
theorem hpush_v (b : Nat) (v : Value) (l : List Int) (x : Int) (w : World) (h : HeapV w b v l) (hp : Hp l.length l) (hn : l.length ≤ 900000) :
    Calls Tryz.prog 76 #[.iface 146 (.pointer (some ⟨b, 0, none⟩)), .iface 39 (.int .u64 x)] w fun e w' => e = .returned (.tuple #[]) ∧ PutP b v l x w w' := by
  have HPush := Lib.hid (push_v b v l x w h (by omega))
  have HU := Lib.hid (hp.pushed x)
  clear h hp
  go_enter Tryz.func76, Tryz.ntmps76
  go_wp2_with (go_at_call 123; refine HPush.out.mono ?_; rintro e w1 ⟨rfl, v1, hv1, hst1⟩; have HV1 := Lib.hid hv1; have HT1 := Lib.hid hst1; clear hv1 hst1)
  obtain ⟨a1, c1, rfl⟩ := HV1.out.slice
  rw [meth_len _ (by decide) w1 b _ HV1.out.cell]
  have q1 : IntKind.i64.wrap (((l ++ [x]).length : Int) - 1) = (l.length : Int) := by rw [show ((l ++ [x]).length : Int) - 1 = (l.length : Int) by simp]; exact IntWalk.i64_in _ (by omega)
  go_wp2_with (go_at_call 119; refine (len_v _ _ _ ⟨_, _, rfl⟩).mono ?_; rintro e w2 ⟨rfl, rfl⟩)
  refine (up_v b _ _ _ _ w1 HV1.out (by simp; omega) HU.out).mono ?_
  rintro e w3 ⟨rfl, l3, hv3, hs3, hp3, hst3⟩
  have HR := Lib.hid (show PutP b v l x w w3 from ⟨_, l3, hv3, by rw [hs3.len]; simpa using hp3, hs3.perm.trans (List.perm_append_singleton _ _), HT1.out.trans hst3⟩)
  clear hv3 hs3 hp3 hst3
  go_wp2_with (fail)
  go_end0
  exact ⟨rfl, HR.out⟩

/-- what is left once the last one is struck -/
theorem pop_done {n b i : Nat} {v : Value} {l l2 : List Int} {w w1 w2 : World} (hl : l.length = n + 1) (hi : i < l.length) (hs : SameL n (swpL l i n) l2) (hp : Hp n l2) (hst : HStep b v v w w1)
    (hpop : ∃ v', HeapV w2 b v' (l2.take n) ∧ HStep b v v' w1 w2) : PopP b v l (l.getD i 0) w w2 := by
  obtain ⟨v', hv, ht⟩ := hpop
  have hlen : l2.length = n + 1 := by rw [hs.len, swpL_len, hl]
  have h1 := last_split l2 n hlen
  have h2 : l2.getD n 0 = l.getD i 0 := by rw [hs.rest n (Nat.le_refl _), swpL_get _ _ _ _ hi (by omega), if_pos rfl]
  rw [h2] at h1
  refine ⟨v', l2.take n, hv, hp.take (by omega), ?_, hst.trans ht⟩
  have h3 : l2.Perm l := hs.perm.trans (swpL_perm _ _ _ hi (by omega))
  rw [h1] at h3
  exact h3.symm.trans (List.perm_append_singleton _ _)
theorem pop_done_v {n b i : Nat} {v : Value} {l l2 : List Int} {w1 : World} (hl : l.length = n + 1) (hn : n ≤ 1000000) (hi : i < l.length) (hs : SameL n (swpL l i n) l2) (hv : HeapV w1 b v l2) :
    Calls Tryz.prog 122 #[.pointer (some ⟨b, 0, none⟩)] w1 fun e w' => e = .returned (.iface 39 (.int .u64 (l.getD i 0))) ∧ ∃ v', HeapV w' b v' (l2.take n) ∧ HStep b v v' w1 w' := by
  have hlen : l2.length = n + 1 := by rw [hs.len, swpL_len, hl]
  have h1 := last_split l2 n hlen
  have h2 : l2.getD n 0 = l.getD i 0 := by rw [hs.rest n (Nat.le_refl _), swpL_get _ _ _ _ hi (by omega), if_pos rfl]
  rw [h2] at h1
  rw [h1] at hv
  exact pop_v b v _ _ w1 hv (by simp; omega)

end Go.Proofs.YtodgfbjjjgohgaaGreat
namespace Go.Proofs.YtodgfbjjjgohgaaGreat
open Go.RowKit

theorem swpL_id (l : List Int) (i : Nat) (hi : i < l.length) : swpL l i i = l := by
  unfold swpL
  apply List.ext_getElem?
  intro k
  simp only [List.getElem?_set, List.length_set]
  by_cases h : i = k
  · subst h; simp [hi]
  · simp [h]

set_option maxRecDepth 100000 in
set_option maxHeartbeats 2000000 in
theorem hremove_v (b : Nat) (v : Value) (l : List Int) (n i : Nat) (w : World) (h : HeapV w b v l) (hp : Hp l.length l) (hl : l.length = n + 1) (hn : n ≤ 900000) (hi : i ≤ n) :
    Calls Tryz.prog 68 #[.iface 146 (.pointer (some ⟨b, 0, none⟩)), .int .i64 i] w fun e w' => e = .returned (.iface 39 (.int .u64 (l.getD i 0))) ∧ PopP b v l (l.getD i 0) w w' := by
  obtain ⟨a1, c1, rfl⟩ := h.slice
  have H := Lib.hid h
  have HD := Lib.hid (show DownOk n (swpL l i n) i i from by have := hp.swapped i (by omega); rwa [hl, Nat.add_sub_cancel] at this)
  have HP := Lib.hid (show Hp n l from hp.less (by omega))
  have HL := Lib.hid hl
  have LS := Lib.hid (swap_b b _ l i n (by omega) (by omega) (by omega) w i n h rfl rfl)
  have q1 : IntKind.i64.wrap ((l.length : Int) - 1) = (n : Int) := by rw [hl, show ((n + 1 : Nat) : Int) - 1 = (n : Int) by omega]; exact IntWalk.i64_in _ (by omega)
  clear h hp hl
  by_cases hin : n = i
  · subst hin
    go_enter Tryz.func68, Tryz.ntmps68
    go_wp2_with (fail)
    rw [meth_len _ (by decide) w b _ H.out.cell]
    go_wp2_with (go_at_call 119; refine (len_v _ _ _ ⟨_, _, rfl⟩).mono ?_; rintro e w2 ⟨rfl, rfl⟩)
    have HSS := Lib.hid (show SameL n (swpL l n n) l from by rw [swpL_id l n (by have := HL.out; omega)]; exact .refl _ _)
    go_wp2_with (go_at_call 122; refine (pop_done_v HL.out (by omega) (by have := HL.out; omega) HSS.out H.out).mono ?_; rintro e w4 ⟨rfl, h4⟩; have HR := Lib.hid (pop_done HL.out (by have := HL.out; omega) HSS.out HP.out (HStep.refl _ _ _) h4); clear h4)
    go_ret
    exact ⟨rfl, HR.out⟩
  · have hin2 : ¬ ((n : Int) = (i : Int)) := by omega
    go_enter Tryz.func68, Tryz.ntmps68
    go_wp2_with (fail)
    rw [meth_len _ (by decide) w b _ H.out.cell]
    go_wp2_with (go_at_call 119; refine (len_v _ _ _ ⟨_, _, rfl⟩).mono ?_; rintro e w2 ⟨rfl, rfl⟩)
    rw [meth_swap _ (by decide) w b _ H.out.cell]
    go_wp2_with (go_at_call 121; refine LS.out.mono ?_; rintro e w2 ⟨rfl, hv2, hst2⟩; have HV2 := Lib.hid hv2; have HT2 := Lib.hid hst2; clear hv2 hst2)
    refine (down_v b _ _ n i w2 HV2.out (by rw [swpL_len, HL.out]; omega) HD.out (by omega)).mono ?_
    rintro e w3 ⟨m, l3, rfl, hv3, hs3, hm1, hm2, hst3⟩
    have HV3 := Lib.hid hv3
    have HS3 := Lib.hid hs3
    have HT3 := Lib.hid hst3
    cases m
    · have HU := Lib.hid (hm2 rfl (by omega))
      clear hv3 hs3 hm1 hm2 hst3
      go_wp2_with (go_at_call 81; refine (up_v b _ _ n i w3 HV3.out (by rw [HS3.out.len, swpL_len, HL.out]; omega) HU.out).mono ?_; rintro e w5 ⟨rfl, l5, hv5, hs5, hp5, hst5⟩; have HV5 := Lib.hid hv5; have HS5 := Lib.hid (HS3.out.trans hs5); have HP5 := Lib.hid hp5; have HT5 := Lib.hid hst5; clear hv5 hs5 hp5 hst5)
      go_wp2_with (go_at_call 122; refine (pop_done_v HL.out (by omega) (by have := HL.out; omega) HS5.out HV5.out).mono ?_; rintro e w4 ⟨rfl, h4⟩; have HR := Lib.hid (pop_done HL.out (by have := HL.out; omega) HS5.out HP5.out ((HT2.out.trans HT3.out).trans HT5.out) h4); clear h4)
      go_ret
      exact ⟨rfl, HR.out⟩
    · have HP3 := Lib.hid (hm1 rfl)
      clear hv3 hs3 hm1 hm2 hst3
      go_wp2_with (go_at_call 122; refine (pop_done_v HL.out (by omega) (by have := HL.out; omega) HS3.out HV3.out).mono ?_; rintro e w4 ⟨rfl, h4⟩; have HR := Lib.hid (pop_done HL.out (by have := HL.out; omega) HS3.out HP3.out (HT2.out.trans HT3.out) h4); clear h4)
      go_ret
      exact ⟨rfl, HR.out⟩
end Go.Proofs.YtodgfbjjjgohgaaGreat
namespace Go.Proofs.YtodgfbjjjgohgaaGreat
open Go.RowKit

/-- where a stands in l -/
def PlaceR (l : List Int) (a : Int) (r : Int) : Prop := (r = -1 ∧ a ∉ l) ∨ ∃ i : Nat, r = i ∧ i < l.length ∧ l.getD i 0 = a
def PlaceP (l : List Int) (a : Int) (e : Ending) : Prop := ∃ r, e = .returned (.int .i64 r) ∧ PlaceR l a r

theorem eq_v (x a : Int) (B : Nat) (w : World) (hc : w.cell? ⟨B, 0, none⟩ = some (.int .u64 a)) : Calls Tryz.prog 79 #[.int .u64 x, .pointer (some ⟨B, 0, none⟩)] w fun e w' => e = .returned (.bool (x == a)) ∧ ∃ q, w' = w.drewN q := by
  go_enter Tryz.func79, Tryz.ntmps79
  go_wp2_with (fail)
  go_ret
  exact ⟨rfl, 0, rfl⟩

set_option maxRecDepth 100000 in
set_option maxHeartbeats 1000000 in
theorem index_v (b B : Nat) (v : Value) (l : List Int) (a : Int) (w : World) (h : HeapV w b v l) (hn : l.length ≤ 1000000) (hB : w.cell? ⟨B, 0, none⟩ = some (.int .u64 a)) :
    Calls Tryz.prog 78 #[v, .func (.func 79) #[] #[.pointer (some ⟨B, 0, none⟩)]] w fun e w' => PlaceP l a e ∧ ∃ q, w' = w.drewN q := by
  obtain ⟨a1, c1, rfl⟩ := h.slice
  have H := Lib.hid h
  clear h
  go_enter Tryz.func78, Tryz.ntmps78
  go_wp2_with (fail)
  go_loopw [8] (fun jv wr => ∃ k q : Nat, jv = .int .i64 k ∧ k ≤ l.length ∧ wr = w.drewN q ∧ ∀ j, j < k → l.getD j 0 ≠ a) (fun jv _ => l.length - (intOf jv).toNat)
  case atStart => exact ⟨0, 0, rfl, Nat.zero_le _, rfl, fun j hj => absurd hj (Nat.not_lt_zero _)⟩
  case round =>
    obtain ⟨k, q, rfl, hk, rfl, hno⟩ := hrel
    have HN := Lib.hid hno
    clear hno
    by_cases hlt : k < l.length
    · obtain ⟨g, cap, e, _, _, _, _, hc, _⟩ := (H.out.drewN q).pos (by omega)
      simp at e
      obtain ⟨rfl, rfl⟩ := e
      have c2 := hc k hlt
      obtain ⟨x, hx⟩ : ∃ x, l.getD k 0 = x := ⟨_, rfl⟩
      rw [hx] at c2
      have c3 : w.cell? ⟨g, k, none⟩ = some (.int .u64 x) := c2
      have HX := Lib.hid hx
      have b1 : (k : Int) < (l.length : Int) := by omega
      have b3 : ((k : Int)).toNat = k := by omega
      have HQ := Lib.hid (eq_v x a B (w.drewN q) hB)
      clear hc hx
      by_cases hxa : x = a
      · rw [show (x == a) = true by simpa using hxa] at HQ
        have HXA := Lib.hid hxa
        clear hxa
        go_wp2_with (go_at_call 79; refine HQ.out.mono ?_; rintro e w2 ⟨rfl, q2, rfl⟩)
        go_ret
        exact ⟨⟨k, rfl, .inr ⟨k, rfl, hlt, HX.out.trans HXA.out⟩⟩, _, rfl⟩
      · rw [show (x == a) = false by simpa using hxa] at HQ
        have HXA := Lib.hid hxa
        clear hxa
        go_wp2_with (go_at_call 79; refine HQ.out.mono ?_; rintro e w2 ⟨rfl, q2, rfl⟩)
        go_roundw
        case rel =>
          refine ⟨k + 1, _, by go_num, by omega, rfl, fun j hj => ?_⟩
          by_cases e : j = k
          · subst e; rw [HX.out]; exact HXA.out
          · exact HN.out j (by omega)
        case measure => simp [intOf]; omega
    · have hk2 : k = l.length := by omega
      subst hk2
      go_wp2_with (fail)
      go_ret
      refine ⟨⟨-1, rfl, .inl ⟨rfl, fun hm => ?_⟩⟩, q, rfl⟩
      obtain ⟨i, hi, e⟩ := List.getElem_of_mem hm
      exact HN.out i hi (by simp [hi, e])
end Go.Proofs.YtodgfbjjjgohgaaGreat
