/-
  container/heap down, on the row: a contract.
-/
import Derived.Test.YtdekjfbaoaobeaaHu
namespace Go.Proofs.Ytdekjfbaoaobeaa
open Go.RowKit

def DnP (n i0 b : Nat) (v : Value) (l : List Int) (e : Ending) (w w' : World) : Prop :=
  ∃ (m : Bool) (l' : List Int), e = .returned (.bool m) ∧ HeapV w' b v l' ∧ SameL n l l' ∧ (m = true → Hp n l') ∧ (m = false → i0 < n → UpOk n l' i0) ∧ HStep b v v w w'
theorem DnP.mk {n i0 b i : Nat} {v : Value} {l l' : List Int} {w w' : World} (hv : HeapV w' b v l') (hs : SameL n l l') (hd : DownOk n l' i0 i) (hst : HStep b v v w w') (hk : ∀ k, k < n → 0 < k → par k = i → l'.getD i 0 ≤ l'.getD k 0) :
    DnP n i0 b v l (.returned (.bool (decide (i0 < i)))) w w' := by
  have h := hd.stop hk
  have hge := hd.ge
  refine ⟨_, l', rfl, hv, hs, fun e => h.1 (by simpa using e), fun e hn => h.2 (by simp at e; omega) hn, hst⟩

theorem less_b (b : Nat) (v : Value) (l : List Int) (i j : Nat) (r : Bool) (hr : decide (l.getD i 0 < l.getD j 0) = r) (hi : i < l.length) (hj : j < l.length) (hn : l.length ≤ 1000000) :
    ∀ (w : World) (I J : Int), HeapV w b v l → I = (i : Int) → J = (j : Int) → Calls Try.prog 91 #[v, .int .i64 I, .int .i64 J] w fun e w' => e = .returned (.bool r) ∧ ∃ q, w' = w.drewN q := by
  rintro w _ _ h rfl rfl
  have := less_v b v l i j w h hi hj hn
  rwa [hr] at this
theorem swap_b (b : Nat) (v : Value) (l : List Int) (i j : Nat) (hi : i < l.length) (hj : j < l.length) (hn : l.length ≤ 1000000) :
    ∀ (w : World) (I J : Int), HeapV w b v l → I = (i : Int) → J = (j : Int) → Calls Try.prog 92 #[v, .int .i64 I, .int .i64 J] w fun e w' => e = .returned (.tuple #[]) ∧ HeapV w' b v (swpL l i j) ∧ HStep b v v w w' := by
  rintro w _ _ h rfl rfl
  exact swap_v b v l i j w h hi hj hn


set_option maxRecDepth 100000 in
set_option maxHeartbeats 4000000 in
theorem down_v (b : Nat) (v : Value) (l : List Int) (n i0 : Nat) (w : World) (h : HeapV w b v l) (hn : l.length ≤ 1000000) (hu : DownOk n l i0 i0) (hi : i0 ≤ 1000000) :
    Calls Try.prog 49 #[.iface 62 (.pointer (some ⟨b, 0, none⟩)), .int .i64 i0, .int .i64 n] w fun e w' => DnP n i0 b v l e w w' := by
  go_enter Try.func49, Try.ntmps49
  go_wp2_with (fail)
  go_loopw [7] (fun jv wr => ∃ (i' : Nat) (l' : List Int), jv = .int .i64 i' ∧ i' ≤ 1000000 ∧ HeapV wr b v l' ∧ SameL n l l' ∧ DownOk n l' i0 i' ∧ HStep b v v w wr) (fun jv _ => (n : Int).toNat - (intOf jv).toNat)
  case atStart => exact ⟨i0, l, rfl, hi, h, .refl _ _, hu, .refl _ _ _⟩
  case round =>
    obtain ⟨i', l', rfl, hib, hv, hs, hd, hst⟩ := hrel
    have hlen := hs.len
    have hnl := hd.nl
    have hc := hv.cell
    have HV := Lib.hid hv
    clear hv
    by_cases h1 : 2 * i' + 1 < n
    · have HT := Lib.hid hst
      have HSs := Lib.hid hs
      by_cases h2 : 2 * i' + 2 < n
      · have hp2 : ∀ k, 0 < k → par k = i' → k = 2 * i' + 1 ∨ k = 2 * i' + 2 := fun k h0 hp => by unfold par at hp; omega
        by_cases lj : l'.getD (2 * i' + 2) 0 < l'.getD (2 * i' + 1) 0
        · have L21 := Lib.hid (less_b b v l' (2 * i' + 2) (2 * i' + 1) true (by simpa using lj) (by omega) (by omega) (by omega))
          have hmin : ∀ k, k < n → 0 < k → par k = i' → l'.getD (2 * i' + 2) 0 ≤ l'.getD k 0 := fun k _ h0 hp => by rcases hp2 k h0 hp with rfl | rfl <;> omega
          clear hp2 lj
          have HD := Lib.hid hd
          by_cases hl : l'.getD (2*i'+2) 0 < l'.getD i' 0
          · have LI := Lib.hid (less_b b v l' (2*i'+2) i' true (by simpa using hl) (by omega) (by omega) (by omega))
            have LS := Lib.hid (swap_b b v l' i' (2*i'+2) (by omega) (by omega) (by omega))
            have HU := Lib.hid (hd.next (j := 2*i'+2) (by omega) (by omega) (by unfold par; omega) hmin hl)
            have HW := Lib.hid (SameL.swp n l' i' (2*i'+2) (by omega) (by omega) (by omega))
            clear hl hmin hd hs hst hu
            go_wp2_with (fail)
            rw [meth_less _ (by decide) wr b v hc]
            go_wp2_with (go_at_call 91; refine (L21.out _ _ _ HV.out (by omega) (by omega)).mono ?_; rintro e w2 ⟨rfl, q, rfl⟩)
            have HVq := Lib.hid (HV.out.drewN q)
            have hcq : (wr.drewN q).cell? ⟨b, 0, none⟩ = some v := hc
            rw [meth_less _ (by decide) (wr.drewN q) b v hcq]
            go_wp2_with (go_at_call 91; refine (LI.out _ _ _ HVq.out (by omega) (by omega)).mono ?_; rintro e w2 ⟨rfl, q2, rfl⟩)
            have HV2 := Lib.hid (HV.out.drewN (q+q2))
            have HT2 := Lib.hid (HT.out.drewN (q+q2))
            rw [meth_swap _ (by decide) _ b v HV2.out.cell]
            go_wp2_with (go_at_call 92; refine (LS.out _ _ _ HV2.out (by omega) (by omega)).mono ?_; rintro e w3 ⟨rfl, hv3, hst3⟩; have HV3 := Lib.hid hv3; have HT3 := Lib.hid hst3; clear hv3 hst3)
            go_roundw
            case rel => exact ⟨2*i'+2, _, by go_num, by omega, HV3.out, HSs.out.trans HW.out, HU.out, HT2.out.trans HT3.out⟩
            case measure => simp [intOf]; omega
          · have LI := Lib.hid (less_b b v l' (2*i'+2) i' false (by simpa using hl) (by omega) (by omega) (by omega))
            have HK := Lib.hid (show ∀ k, k < n → 0 < k → par k = i' → l'.getD i' 0 ≤ l'.getD k 0 from fun k h1 h2 h3 => by have := hmin k h1 h2 h3; omega)
            clear hl hmin hd hs hst hu
            go_wp2_with (fail)
            rw [meth_less _ (by decide) wr b v hc]
            go_wp2_with (go_at_call 91; refine (L21.out _ _ _ HV.out (by omega) (by omega)).mono ?_; rintro e w2 ⟨rfl, q, rfl⟩)
            have HVq := Lib.hid (HV.out.drewN q)
            have hcq : (wr.drewN q).cell? ⟨b, 0, none⟩ = some v := hc
            rw [meth_less _ (by decide) (wr.drewN q) b v hcq]
            go_wp2_with (go_at_call 91; refine (LI.out _ _ _ HVq.out (by omega) (by omega)).mono ?_; rintro e w2 ⟨rfl, q2, rfl⟩)
            go_ret
            exact DnP.mk (HV.out.drewN (q+q2)) HSs.out HD.out (HT.out.drewN (q+q2)) HK.out
        · have L21 := Lib.hid (less_b b v l' (2 * i' + 2) (2 * i' + 1) false (by simpa using lj) (by omega) (by omega) (by omega))
          have hmin : ∀ k, k < n → 0 < k → par k = i' → l'.getD (2 * i' + 1) 0 ≤ l'.getD k 0 := fun k _ h0 hp => by rcases hp2 k h0 hp with rfl | rfl <;> omega
          clear hp2 lj
          have HD := Lib.hid hd
          by_cases hl : l'.getD (2*i'+1) 0 < l'.getD i' 0
          · have LI := Lib.hid (less_b b v l' (2*i'+1) i' true (by simpa using hl) (by omega) (by omega) (by omega))
            have LS := Lib.hid (swap_b b v l' i' (2*i'+1) (by omega) (by omega) (by omega))
            have HU := Lib.hid (hd.next (j := 2*i'+1) (by omega) (by omega) (by unfold par; omega) hmin hl)
            have HW := Lib.hid (SameL.swp n l' i' (2*i'+1) (by omega) (by omega) (by omega))
            clear hl hmin hd hs hst hu
            go_wp2_with (fail)
            rw [meth_less _ (by decide) wr b v hc]
            go_wp2_with (go_at_call 91; refine (L21.out _ _ _ HV.out (by omega) (by omega)).mono ?_; rintro e w2 ⟨rfl, q, rfl⟩)
            have HVq := Lib.hid (HV.out.drewN q)
            have hcq : (wr.drewN q).cell? ⟨b, 0, none⟩ = some v := hc
            rw [meth_less _ (by decide) (wr.drewN q) b v hcq]
            go_wp2_with (go_at_call 91; refine (LI.out _ _ _ HVq.out (by omega) (by omega)).mono ?_; rintro e w2 ⟨rfl, q2, rfl⟩)
            have HV2 := Lib.hid (HV.out.drewN (q+q2))
            have HT2 := Lib.hid (HT.out.drewN (q+q2))
            rw [meth_swap _ (by decide) _ b v HV2.out.cell]
            go_wp2_with (go_at_call 92; refine (LS.out _ _ _ HV2.out (by omega) (by omega)).mono ?_; rintro e w3 ⟨rfl, hv3, hst3⟩; have HV3 := Lib.hid hv3; have HT3 := Lib.hid hst3; clear hv3 hst3)
            go_roundw
            case rel => exact ⟨2*i'+1, _, by go_num, by omega, HV3.out, HSs.out.trans HW.out, HU.out, HT2.out.trans HT3.out⟩
            case measure => simp [intOf]; omega
          · have LI := Lib.hid (less_b b v l' (2*i'+1) i' false (by simpa using hl) (by omega) (by omega) (by omega))
            have HK := Lib.hid (show ∀ k, k < n → 0 < k → par k = i' → l'.getD i' 0 ≤ l'.getD k 0 from fun k h1 h2 h3 => by have := hmin k h1 h2 h3; omega)
            clear hl hmin hd hs hst hu
            go_wp2_with (fail)
            rw [meth_less _ (by decide) wr b v hc]
            go_wp2_with (go_at_call 91; refine (L21.out _ _ _ HV.out (by omega) (by omega)).mono ?_; rintro e w2 ⟨rfl, q, rfl⟩)
            have HVq := Lib.hid (HV.out.drewN q)
            have hcq : (wr.drewN q).cell? ⟨b, 0, none⟩ = some v := hc
            rw [meth_less _ (by decide) (wr.drewN q) b v hcq]
            go_wp2_with (go_at_call 91; refine (LI.out _ _ _ HVq.out (by omega) (by omega)).mono ?_; rintro e w2 ⟨rfl, q2, rfl⟩)
            go_ret
            exact DnP.mk (HV.out.drewN (q+q2)) HSs.out HD.out (HT.out.drewN (q+q2)) HK.out
      · have hmin : ∀ k, k < n → 0 < k → par k = i' → l'.getD (2 * i' + 1) 0 ≤ l'.getD k 0 := fun k hk h0 hp => by
          have : k = 2 * i' + 1 := by unfold par at hp; omega
          subst this; omega
        have HD := Lib.hid hd
        by_cases hl : l'.getD (2*i'+1) 0 < l'.getD i' 0
        · have LI := Lib.hid (less_b b v l' (2*i'+1) i' true (by simpa using hl) (by omega) (by omega) (by omega))
          have LS := Lib.hid (swap_b b v l' i' (2*i'+1) (by omega) (by omega) (by omega))
          have HU := Lib.hid (hd.next (j := 2*i'+1) (by omega) (by omega) (by unfold par; omega) hmin hl)
          have HW := Lib.hid (SameL.swp n l' i' (2*i'+1) (by omega) (by omega) (by omega))
          clear hl hmin hd hs hst hu
          go_wp2_with (fail)
          have HVq := Lib.hid HV.out
          rw [meth_less _ (by decide) wr b v hc]
          go_wp2_with (go_at_call 91; refine (LI.out _ _ _ HVq.out (by omega) (by omega)).mono ?_; rintro e w2 ⟨rfl, q2, rfl⟩)
          have HV2 := Lib.hid (HV.out.drewN (q2))
          have HT2 := Lib.hid (HT.out.drewN (q2))
          rw [meth_swap _ (by decide) _ b v HV2.out.cell]
          go_wp2_with (go_at_call 92; refine (LS.out _ _ _ HV2.out (by omega) (by omega)).mono ?_; rintro e w3 ⟨rfl, hv3, hst3⟩; have HV3 := Lib.hid hv3; have HT3 := Lib.hid hst3; clear hv3 hst3)
          go_roundw
          case rel => exact ⟨2*i'+1, _, by go_num, by omega, HV3.out, HSs.out.trans HW.out, HU.out, HT2.out.trans HT3.out⟩
          case measure => simp [intOf]; omega
        · have LI := Lib.hid (less_b b v l' (2*i'+1) i' false (by simpa using hl) (by omega) (by omega) (by omega))
          have HK := Lib.hid (show ∀ k, k < n → 0 < k → par k = i' → l'.getD i' 0 ≤ l'.getD k 0 from fun k h1 h2 h3 => by have := hmin k h1 h2 h3; omega)
          clear hl hmin hd hs hst hu
          go_wp2_with (fail)
          have HVq := Lib.hid HV.out
          rw [meth_less _ (by decide) wr b v hc]
          go_wp2_with (go_at_call 91; refine (LI.out _ _ _ HVq.out (by omega) (by omega)).mono ?_; rintro e w2 ⟨rfl, q2, rfl⟩)
          go_ret
          exact DnP.mk (HV.out.drewN (q2)) HSs.out HD.out (HT.out.drewN (q2)) HK.out
    · have HD := Lib.hid (DnP.mk HV.out hs hd hst (fun k hk h0 hp => by unfold par at hp; omega))
      have HD2 := Lib.hid hd
      clear hd hs hst hu
      go_wp2_with (fail)
      go_ret
      exact HD.out
end Go.Proofs.Ytdekjfbaoaobeaa
