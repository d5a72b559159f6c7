/-
  node.rise: contract.
-/
import Derived.Test.YtgmbnoimlffgcaaRv
import Derived.Test.YtgmbnoimlffgcaaP
namespace Go.Proofs.Ytgmbnoimlffgcaa
open Go.RowKit

set_option maxRecDepth 100000 in
set_option maxHeartbeats 4000000 in
theorem nrise_pos (lv lo fi : Int) (l : List (Int × Int)) (g cap : Nat) (w : World) (hn : l.length ≤ 1000000) (hp : 0 < l.length) (hcap : l.length ≤ cap) (hE : EntsAt w g 0 l) :
    Calls Try.prog 102 #[.int .i64 lv, .int .u64 lo, .int .u64 fi, .slice (some ⟨g, 0, none⟩) l.length cap] w fun e W' => e = .returned (.bool (riseB lv lo fi l)) ∧ Below w.heap.size w W' := by
  have hg := hE.lt hp
  have HE := Lib.hid hE
  clear hE
  have FIN := Lib.hid (fun (r : Bool) (hr : riseB lv lo fi l = r) => show Ending.returned (.bool r) = .returned (.bool (riseB lv lo fi l)) by rw [hr])
  go_enter Try.func102, Try.ntmps102
  go_wp2_with (fail)
  go_loopw [14] (fun iv wr => ∃ k : Nat, k ≤ l.length ∧ iv = .int .i64 k ∧ Hid (∀ j, j < k → badAt lv lo fi l j = false) ∧ Below w.heap.size w wr) (fun iv _ => l.length - (intOf iv).toNat)
  case atStart => exact ⟨0, Nat.zero_le _, rfl, Lib.hid fun j hj => by omega, Below.refl _ _⟩
  case round =>
    obtain ⟨k, hk, rfl, hno, hB⟩ := hrel
    have HB := Lib.hid hB
    have hsz : w.heap.size ≤ wr.heap.size := hB.size
    by_cases hlt : k < l.length
    · obtain ⟨c1, c2⟩ := HE.out.below hB hg k hlt
      obtain ⟨ki, hki⟩ : ∃ ki, eK l k = ki := ⟨_, rfl⟩
      obtain ⟨pi, hpi⟩ : ∃ pi, eP l k = pi := ⟨_, rfl⟩
      rw [hki, Nat.zero_add] at c1
      rw [hpi, Nat.zero_add] at c2
      obtain ⟨kk, hkk⟩ : ∃ kk, k - 1 = kk := ⟨_, rfl⟩
      obtain ⟨kp, hkp⟩ : ∃ kp, eK l (k - 1) = kp := ⟨_, rfl⟩
      have HBAD := Lib.hid (bad_parts (lv := lv) (lo := lo) (fi := fi) hki hkp hpi)
      -- the world behind the copy of the entry
      have HBx := Lib.hid (hB.alloc hsz (.cells #[.int .u64 ki, .int .u64 pi] 113))
      have HX := Lib.hid (Blk.new wr #[.int .u64 ki, .int .u64 pi] 113)
      have hE2 := HE.out.below HBx.out hg
      have c3 := (hE2 (k - 1) (by omega)).1
      rw [hkp, hkk, Nat.zero_add] at c3
      have HE2 := Lib.hid hE2
      have hgw : g < (wr.alloc (.cells #[.int .u64 ki, .int .u64 pi] 113)).heap.size := by simp; omega
      have HGW := Lib.hid hgw
      have HPI := Lib.hid hpi
      clear hB hki hpi hkp hE2 hgw
      go_wp2_with (fail)
      obtain ⟨bx, hbx⟩ : ∃ b, wr.heap.size = b := ⟨_, rfl⟩
      rw [hbx] at HX ⊢
      have hbl : w.heap.size ≤ bx := by omega
      clear hbx
      generalize wr.alloc (.cells #[.int .u64 ki, .int .u64 pi] 113) = w1 at *
      have x0 : w1.cell? ⟨bx, 0, none⟩ = some (.int .u64 ki) := by rw [HX.out.cell]; rfl
      have x1 : w1.cell? ⟨bx, 1, none⟩ = some (.int .u64 pi) := by rw [HX.out.cell]; rfl
      clear c1 c2
      cases d1 : decide (ki < lo)
      case true =>
        have hf := Lib.hid (rise_false hlt (by rw [HBAD.out]; simp only [d1, Bool.true_or]))
        go_quiet (fail)
        go_wp2_with (fail)
        go_ret
        exact ⟨FIN.out _ hf.out, below_drewN HBx.out _⟩
      case false =>
        obtain ⟨lq, hlq⟩ : ∃ q, (decide (0 < lv) && (ki == lo)) = q := ⟨_, rfl⟩
        cases lq
        case true =>
          have hf := Lib.hid (rise_false hlt (by rw [HBAD.out]; simp only [hlq, Bool.true_or, Bool.or_true]))
          obtain ⟨d2, d3⟩ : decide (0 < lv) = true ∧ (ki == lo) = true := by simpa only [Bool.and_eq_true] using hlq
          clear hlq
          go_quiet (fail)
          go_wp2_with (fail)
          go_ret
          exact ⟨FIN.out _ hf.out, below_drewN HBx.out _⟩
        case false =>
          have h2 : (decide (0 < lv) = true ∧ (ki == lo) = false) ∨ decide (0 < lv) = false := by
            cases h : decide (0 < lv)
            · exact .inr rfl
            · rw [h] at hlq; exact .inl ⟨rfl, by simpa using hlq⟩
          have HLQ := Lib.hid hlq
          clear hlq
          rcases h2 with ⟨d2, d3⟩ | d2
          all_goals
            by_cases b1 : 0 < k
            · have b1' : (0 : Int) < (k : Int) := by omega
              have b3 : (k : Int) - 1 = (kk : Int) := by omega
              have b4 : (kk : Int) < (l.length : Int) := by omega
              have b5 : (k : Int) < (l.length : Int) := by omega
              have b6 : (0 : Int) ≤ (kk : Int) := by omega
              have b7 : IntKind.i64.wrap ((k : Int) - 1) = (kk : Int) := by rw [b3]; exact IntWalk.i64_in _ (by omega)
              have b8 : ((kk : Int)).toNat = kk := by omega
              have b9 : ((k : Int)).toNat = k := by omega
              have b10 : decide (0 < k) = true := by simpa using b1
              have HKK := Lib.hid hkk
              clear b1 hkk
              cases d5 : decide (ki ≤ kp)
              case true =>
                have hf := Lib.hid (rise_false hlt (by rw [HBAD.out]; simp only [b10, d5, Bool.true_and, Bool.true_or, Bool.or_true]))
                go_quiet (fail)
                go_wp2_with (fail)
                go_ret
                exact ⟨FIN.out _ hf.out, below_drewN HBx.out _⟩
              case false =>
                have hD := Lib.hid (show (decide (0 < k) && decide (ki ≤ kp)) = false by rw [d5, Bool.and_false])
                cases d6 : (pi == fi)
                case true =>
                  have hf := Lib.hid (rise_false hlt (by rw [HBAD.out]; simp only [d6, Bool.true_or, Bool.or_true]))
                  go_quiet (fail)
                  go_wp2_with (fail)
                  go_ret
                  exact ⟨FIN.out _ hf.out, below_drewN HBx.out _⟩
                case false =>
                  have b12 : (k : Int) ≤ (cap : Int) := by omega
                  have hAf : ∀ w', Below w1.heap.size w1 w' → Calls Try.prog 106 #[.slice (some ⟨g, 0, none⟩) k cap, .func (.func 105) #[] #[.pointer (some ⟨bx, 0, none⟩)]] w'
                      fun e w'' => e = .returned (.bool ((List.range k).any (fun j => eP l j == pi))) ∧ Below w'.heap.size w' w'' := fun w' hb =>
                    contE_calls l k g 0 cap ki pi bx w' (by omega) (by omega) (HE2.out.below hb HGW.out) (fun _ => by have := hb.size; have := HGW.out; omega) (HX.out.below hb HX.out.lt)
                  have HAF := Lib.hid hAf
                  have hbxl : bx < w1.heap.size := HX.out.lt
                  clear hAf
                  obtain ⟨S, f, fne, f0, fB, fI⟩ := cls_of w1
                  have y0 : ∀ x, (f x).cell? ⟨bx, 0, none⟩ = some (.int .u64 ki) := fun x => ((fB x).cell (p := ⟨bx, 0, none⟩) hbxl).trans x0
                  have y1 : ∀ x, (f x).cell? ⟨bx, 1, none⟩ = some (.int .u64 pi) := fun x => ((fB x).cell (p := ⟨bx, 1, none⟩) hbxl).trans x1
                  have y3 : ∀ x, (f x).cell? ⟨g, kk * 2, none⟩ = some (.int .u64 kp) := fun x => ((fB x).cell (p := ⟨g, kk * 2, none⟩) HGW.out).trans c3
                  have FB := Lib.hid fB
                  have FI := Lib.hid fI
                  have F0 := Lib.hid f0
                  clear fB fI f0 x0 x1 c3
                  (refine wp_region_cls f (by kernel_rfl) (by kernel_rfl) F0.out ?_; (repeat (go_big_quiet_step ((go_at_call 106; exact calls_cls FI.out FB.out (HAF.out _ (FB.out _)))))); refine wpQuiet_nil ?_; intro _ hw'; obtain ⟨xq, hw''⟩ := hw'; subst hw'')
                  have HBc := Lib.hid (HBx.out.trans ((FB.out xq).mono HBx.out.size))
                  have hda : dupAt l k = (List.range k).any (fun j => eP l j == pi) := by unfold dupAt; rw [HPI.out]
                  rw [← hda]
                  clear hda y0 y1 y3
                  generalize f xq = w5 at *
                  cases dq : dupAt l k
                  case true =>
                    have hf := Lib.hid (rise_false hlt (by rw [HBAD.out, dq]; simp only [Bool.or_true]))
                    go_wp2_with (fail)
                    go_ret
                    exact ⟨FIN.out _ hf.out, HBc.out⟩
                  case false =>
                    have HDQ := Lib.hid dq
                    go_wp2_with (fail)
                    go_roundw
                    case rel => exact ⟨k + 1, by omega, by go_num, Lib.hid (fun j hj => by
                      rcases Nat.lt_succ_iff_lt_or_eq.1 hj with h | h
                      · exact hno.out j h
                      · rw [h, HBAD.out, d1, HLQ.out, hD.out, d6, HDQ.out]; rfl), HBc.out⟩
                    case measure => simp [intOf]; omega
            · have b10 : decide (0 < k) = false := by simpa using b1
              have b1i : decide ((0 : Int) < (k : Int)) = false := decide_eq_false (by omega)
              have b5 : (k : Int) < (l.length : Int) := by omega
              have b9 : ((k : Int)).toNat = k := by omega
              have hD := Lib.hid (show (decide (0 < k) && decide (ki ≤ kp)) = false by rw [b10]; rfl)
              clear b1 hkk
              cases d6 : (pi == fi)
              case true =>
                have hf := Lib.hid (rise_false hlt (by rw [HBAD.out]; simp only [d6, Bool.true_or, Bool.or_true]))
                go_quiet (fail)
                go_wp2_with (fail)
                go_ret
                exact ⟨FIN.out _ hf.out, below_drewN HBx.out _⟩
              case false =>
                have b12 : (k : Int) ≤ (cap : Int) := by omega
                have hAf : ∀ w', Below w1.heap.size w1 w' → Calls Try.prog 106 #[.slice (some ⟨g, 0, none⟩) k cap, .func (.func 105) #[] #[.pointer (some ⟨bx, 0, none⟩)]] w'
                    fun e w'' => e = .returned (.bool ((List.range k).any (fun j => eP l j == pi))) ∧ Below w'.heap.size w' w'' := fun w' hb =>
                  contE_calls l k g 0 cap ki pi bx w' (by omega) (by omega) (HE2.out.below hb HGW.out) (fun _ => by have := hb.size; have := HGW.out; omega) (HX.out.below hb HX.out.lt)
                have HAF := Lib.hid hAf
                have hbxl : bx < w1.heap.size := HX.out.lt
                clear hAf
                obtain ⟨S, f, fne, f0, fB, fI⟩ := cls_of w1
                have y0 : ∀ x, (f x).cell? ⟨bx, 0, none⟩ = some (.int .u64 ki) := fun x => ((fB x).cell (p := ⟨bx, 0, none⟩) hbxl).trans x0
                have y1 : ∀ x, (f x).cell? ⟨bx, 1, none⟩ = some (.int .u64 pi) := fun x => ((fB x).cell (p := ⟨bx, 1, none⟩) hbxl).trans x1
                have y3 : ∀ x, (f x).cell? ⟨g, kk * 2, none⟩ = some (.int .u64 kp) := fun x => ((fB x).cell (p := ⟨g, kk * 2, none⟩) HGW.out).trans c3
                have FB := Lib.hid fB
                have FI := Lib.hid fI
                have F0 := Lib.hid f0
                clear fB fI f0 x0 x1 c3
                (refine wp_region_cls f (by kernel_rfl) (by kernel_rfl) F0.out ?_; (repeat (go_big_quiet_step ((go_at_call 106; exact calls_cls FI.out FB.out (HAF.out _ (FB.out _)))))); refine wpQuiet_nil ?_; intro _ hw'; obtain ⟨xq, hw''⟩ := hw'; subst hw'')
                have HBc := Lib.hid (HBx.out.trans ((FB.out xq).mono HBx.out.size))
                have hda : dupAt l k = (List.range k).any (fun j => eP l j == pi) := by unfold dupAt; rw [HPI.out]
                rw [← hda]
                clear hda y0 y1 y3
                generalize f xq = w5 at *
                cases dq : dupAt l k
                case true =>
                  have hf := Lib.hid (rise_false hlt (by rw [HBAD.out, dq]; simp only [Bool.or_true]))
                  go_wp2_with (fail)
                  go_ret
                  exact ⟨FIN.out _ hf.out, HBc.out⟩
                case false =>
                  have HDQ := Lib.hid dq
                  go_wp2_with (fail)
                  go_roundw
                  case rel => exact ⟨k + 1, by omega, by go_num, Lib.hid (fun j hj => by
                    rcases Nat.lt_succ_iff_lt_or_eq.1 hj with h | h
                    · exact hno.out j h
                    · rw [h, HBAD.out, d1, HLQ.out, hD.out, d6, HDQ.out]; rfl), HBc.out⟩
                  case measure => simp [intOf]; omega
    · have hf := Lib.hid (rise_true (lv := lv) (lo := lo) (fi := fi) (l := l) (fun j hj => hno.out j (by omega)))
      clear hB
      go_wp2_with (fail)
      go_ret
      exact ⟨FIN.out _ hf.out, HB.out⟩
end Go.Proofs.Ytgmbnoimlffgcaa
