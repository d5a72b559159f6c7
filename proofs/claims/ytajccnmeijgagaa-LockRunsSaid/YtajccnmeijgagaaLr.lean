/-
  LockRuns: THE WALK: the Go text returns true and leaves what was there.
-/
import Derived.Test.YtajccnmeijgagaaP
namespace Go.Proofs.Ytajccnmeijgagaa
open Go.RowKit Go.Maps

set_option maxRecDepth 100000 in
theorem lockRuns_out (n c : Int) (w : World) (h : n < 2 ∨ 64 < n ∨ c < 0 ∨ n ≤ c) : Calls Try.prog 3 #[.int .i64 n, .int .i64 c] w fun e w' => e = .returned (.bool true) ∧ Keeps NoB w w' := by
  by_cases h1 : n < 2
  · go_enter Try.func3, Try.ntmps3
    go_wp2_with (go_at_call 7; refine (known_any _).mono ?_; rintro e w' ⟨rfl, hk⟩)
    go_ret
    exact ⟨rfl, hk⟩
  · by_cases h2 : 64 < n
    · go_enter Try.func3, Try.ntmps3
      go_wp2_with (go_at_call 7; refine (known_any _).mono ?_; rintro e w' ⟨rfl, hk⟩)
      go_ret
      exact ⟨rfl, hk⟩
    · by_cases h3 : c < 0
      · go_enter Try.func3, Try.ntmps3
        go_wp2_with (go_at_call 7; refine (known_any _).mono ?_; rintro e w' ⟨rfl, hk⟩)
        go_ret
        exact ⟨rfl, hk⟩
      · have h4 : n ≤ c := by omega
        go_enter Try.func3, Try.ntmps3
        go_wp2_with (go_at_call 7; refine (known_any _).mono ?_; rintro e w' ⟨rfl, hk⟩)
        go_ret
        exact ⟨rfl, hk⟩

set_option maxRecDepth 100000 in
theorem lockRuns_in (n c : Nat) (w : World) (h1 : 2 ≤ n) (h2 : n ≤ 64) (h3 : c < n) : Calls Try.prog 3 #[.int .i64 n, .int .i64 c] w fun e w' => e = .returned (.bool true) ∧ Keeps NoB w w' := by
  have b1 : ¬ (n : Int) < 2 := by omega
  have b2 : ¬ (64 : Int) < n := by omega
  have b3 : ¬ (n : Int) ≤ (c : Int) := by omega
  have b4 : (n : Int) ≤ 64 := by omega
  have HN := Lib.hid (new_tab n (by omega) (by omega) w)
  go_enter Try.func3, Try.ntmps3
  go_wp2_with (fail)
  refine HN.out.mono ?_
  rintro e w1 ⟨rfl, t1, k1, s1⟩
  have HT := Lib.hid t1
  have HK := Lib.hid k1
  have S1 := Lib.hid s1
  clear t1 k1 s1 HN
  go_wp2_with (fail)
  refine (new_tab n (by omega) (by omega) w1).mono ?_
  rintro e w2 ⟨rfl, t1, k1, s1⟩
  have S1' := S1.out
  have HU := Lib.hid t1
  have HK2 := Lib.hid (HK.out.trans k1)
  have HT2 := Lib.hid (HT.out.kept k1 id id)
  obtain ⟨bt, hbt⟩ : ∃ bt, bt = w.heap.size + 1 := ⟨_, rfl⟩
  obtain ⟨mt, hmt⟩ : ∃ mt, mt = w.heap.size := ⟨_, rfl⟩
  obtain ⟨bu, hbu⟩ : ∃ bu, bu = w1.heap.size + 1 := ⟨_, rfl⟩
  obtain ⟨mu, hmu⟩ : ∃ mu, mu = w1.heap.size := ⟨_, rfl⟩
  rw [← hbt, ← hmt] at HT2
  rw [← hbu, ← hmu] at HU
  rw [← hbt, ← hbu]
  have g1 : w.heap.size ≤ mt := by omega
  have g2 : mt < bt := by omega
  have g3 : bt < mu := by omega
  have g4 : mu < bu := by omega
  clear t1 k1 s1 S1 S1' hbt hmt hbu hmu HT HK
  go_wp2_with (fail)
  refine (try_yes w2 _ _ n _ _ 0 HT2.out (by unfold maxLen; omega) 0 8 (by omega) (by omega) (by omega) (by decide) (by omega) (.inl rfl)).mono ?_
  rintro e w3 ⟨rfl, t, k⟩
  rw [show (0 : Int).toNat = 0 from rfl, updN_same0, wT_one] at t
  have HT3 := Lib.hid t
  have HU3 := Lib.hid (HU.out.kept k (by unfold Two; omega) (by unfold Two; omega))
  have HK3 := Lib.hid (HK2.out.two k (by omega) (by omega))
  clear t k HT2 HU HK2
  go_wp2_with (fail)
  go_loopw [9] (fun i wr => ∃ j : Nat, 1 ≤ j ∧ j ≤ n ∧ i = .int .i64 j ∧ Hid (Tab wr bt mt n (updI (fun _ => none) 8 (some 0)) (wT j) 1) ∧ Hid (Tab wr bu mu n (fun _ => none) (fun _ => 0) 0) ∧ Hid (Keeps NoB w wr)) (fun i _ => n - (intOf i).toNat)
  case atStart => exact ⟨1, by omega, by omega, rfl, HT3, HU3, HK3⟩
  case round =>
    obtain ⟨j, hj1, hj2, rfl, ht, hu, hk⟩ := hrel
    clear HT3 HU3 HK3
    by_cases hlt : j < n
    · go_wp2_with (fail)
      refine (try_no wr _ _ n _ _ 1 ht.out (by unfold maxLen; omega) j 8 (by omega) (by omega) (by omega) (by decide) (by omega) 0 rfl (by omega)).mono ?_
      rintro e w4 ⟨rfl, t, k⟩
      rw [Int.toNat_natCast, wT_succ j hj1] at t
      have ht4 := Lib.hid t
      have hu4 := Lib.hid (hu.out.kept k (by unfold Two; omega) (by unfold Two; omega))
      have hk4 := Lib.hid (hk.out.two k (by omega) (by omega))
      clear t k ht hu hk
      go_wp2_with (fail)
      go_roundw
      case rel => exact ⟨j + 1, by omega, by omega, by go_num, ht4, hu4, hk4⟩
      case measure => simp [intOf]; omega
    · obtain rfl : j = n := by omega
      obtain ⟨wa, rfl⟩ : ∃ wa : World, wa = wr := ⟨_, rfl⟩
      rw [hU_zero] at hu
      go_wp2_with (fail)
      go_loopw [10] (fun i wr => ∃ i0 : Nat, i0 ≤ j ∧ i = .int .i64 i0 ∧ Hid (Tab wr bt mt j (updI (fun _ => none) 8 (some 0)) (wT j) 1) ∧ Hid (Tab wr bu mu j (hU i0) (fun _ => 0) i0) ∧ Hid (Keeps NoB w wr)) (fun i _ => j - (intOf i).toNat)
      case atStart => exact ⟨0, by omega, rfl, ht, hu, hk⟩
      case round =>
        clear ht hu hk
        obtain ⟨i, hi2, rfl, ht, hu, hk⟩ := hrel
        by_cases hlt : i < j
        · go_wp2_with (fail)
          refine (try_yes wr _ _ j _ _ i hu.out (by unfold maxLen; omega) i (8 * ((i : Int) + 1)) (by omega) (by omega) (by omega) (WalkArith.wf_u64 (by omega)) (by omega) (.inl (by unfold hU; rw [if_neg (by omega)]))).mono ?_
          rintro e w4 ⟨rfl, t, k⟩
          rw [hU_succ, updN_same0] at t
          have hu4 := Lib.hid t
          have ht4 := Lib.hid (ht.out.kept k (by unfold Two; omega) (by unfold Two; omega))
          have hk4 := Lib.hid (hk.out.two k (by omega) (by omega))
          clear t k ht hu hk
          go_wp2_with (fail)
          go_roundw
          case rel => exact ⟨i + 1, by omega, by go_num, ht4, hu4, hk4⟩
          case measure => simp [intOf]; omega
        · obtain rfl : i = j := by omega
          obtain ⟨wb, rfl⟩ : ∃ wb : World, wb = wr := ⟨_, rfl⟩
          rw [wU_zero c] at hu
          go_wp2_with (fail)
          go_loopw [11] (fun x wr => ∃ q : Nat, c ≤ q ∧ q ≤ i - 1 ∧ x = .int .i64 q ∧ Hid (Tab wr bt mt i (updI (fun _ => none) 8 (some 0)) (wT i) 1) ∧ Hid (Tab wr bu mu i (hU i) (wU c q) i) ∧ Hid (Keeps NoB w wr)) (fun x _ => i - (intOf x).toNat)
          case atStart => exact ⟨c, by omega, by omega, rfl, ht, hu, hk⟩
          case round =>
            clear ht hu hk
            obtain ⟨q, hq1, hq2, rfl, ht, hu, hk⟩ := hrel
            by_cases hlt : q < i - 1
            · go_wp2_with (fail)
              refine (try_no wr _ _ i _ _ i hu.out (by unfold maxLen; omega) q (8 * ((q : Int) + 2)) (by omega) (by omega) (by omega) (WalkArith.wf_u64 (by omega)) (by omega) ((q : Int) + 1) (by unfold hU; rw [if_pos (by omega)]; congr 1; omega) (by omega)).mono ?_
              rintro e w4 ⟨rfl, t, k⟩
              rw [Int.toNat_natCast, wU_succ c q hq1] at t
              have hu4 := Lib.hid t
              have ht4 := Lib.hid (ht.out.kept k (by unfold Two; omega) (by unfold Two; omega))
              have hk4 := Lib.hid (hk.out.two k (by omega) (by omega))
              clear t k ht hu hk
              go_wp2_with (fail)
              refine (runs_r w4 _ _ i _ _ i hu4.out c (by omega) (by omega) (by omega) (hU_range i) ((q : Int) + 1) (by rw [runs_U i c (q + 1) (by omega) (by omega)]; rfl)).mono ?_
              rintro e w5 ⟨rfl, k⟩
              have hu5 := Lib.hid (hu4.out.kept k id id)
              have ht5 := Lib.hid (ht4.out.kept k id id)
              have hk5 := Lib.hid (hk4.out.trans k)
              clear k hu4 ht4 hk4
              go_wp2_with (fail)
              go_roundw
              case rel => exact ⟨q + 1, by omega, by omega, by go_num, ht5, hu5, hk5⟩
              case measure => simp [intOf]; omega
            · obtain rfl : q = i - 1 := by omega
              obtain ⟨wc, rfl⟩ : ∃ wc : World, wc = wr := ⟨_, rfl⟩
              have hi1 : ((i - 1 : Nat) : Int) = (i : Int) - 1 := by omega
              rw [hi1]
              have tk : ∃ W, Hid (W = if c = i - 1 then (fun _ => (0 : Int)) else wC i c) := ⟨_, rfl⟩
              obtain ⟨W, hW⟩ := tk
              have try' : Calls Try.prog 9 #[.pointer (some ⟨bu, 0, none⟩), .int .i64 ((i : Int) - 1), .int .u64 (8 * ((c : Int) + 1))] wc fun e w' => e = .returned (.bool (decide ((c : Int) = (i : Int) - 1))) ∧ (∃ h, Tab w' bu mu i h W (i + 1) ∧ h = hU i) ∧ Keeps (Two bu mu) wc w' := by
                by_cases hc : c = i - 1
                · refine (try_yes wc _ _ i _ _ i hu.out (by unfold maxLen; omega) ((i : Int) - 1) (8 * ((c : Int) + 1)) (by omega) (by omega) (by omega) (WalkArith.wf_u64 (by omega)) (by omega) (.inr (by rw [hU_at i c h3]; congr 1; omega))).mono ?_
                  rintro e w4 ⟨rfl, t, k⟩
                  refine ⟨by rw [decide_eq_true (by omega)], ⟨_, ?_, rfl⟩, k⟩
                  have e1 : updI (hU i) (8 * ((c : Int) + 1)) (some ((i : Int) - 1)) = hU i := by
                    funext a; unfold updI; split
                    · rename_i ha; rw [ha, hU_at i c h3]; congr 1; omega
                    · rfl
                  rw [hW.out, if_pos hc]
                  rw [e1, ← hc, ← wU_zero, updN_same0] at t
                  exact t
                · refine (try_no wc _ _ i _ _ i hu.out (by unfold maxLen; omega) ((i : Int) - 1) (8 * ((c : Int) + 1)) (by omega) (by omega) (by omega) (WalkArith.wf_u64 (by omega)) (by omega) (c : Int) (hU_at i c h3) (by omega)).mono ?_
                  rintro e w4 ⟨rfl, t, k⟩
                  refine ⟨by rw [decide_eq_false (by omega)], ⟨_, ?_, rfl⟩, k⟩
                  rw [hW.out, if_neg hc]
                  rw [show ((i : Int) - 1).toNat = i - 1 by omega] at t
                  exact t.mono (by omega)
              have HTry := Lib.hid try'
              clear try' hu
              have eqb : ((c : Int) == (i : Int) - 1) = decide ((c : Int) = (i : Int) - 1) := by
                by_cases hc : (c : Int) = (i : Int) - 1 <;> simp [hc]
              go_wp2_with (fail)
              refine HTry.out.mono ?_
              rintro e w4 ⟨rfl, ⟨h, t, hh⟩, k⟩
              subst hh
              have hu4 := Lib.hid t
              have ht4 := Lib.hid (ht.out.kept k (by unfold Two; omega) (by unfold Two; omega))
              have hk4 := Lib.hid (hk.out.two k (by omega) (by omega))
              clear t k ht hk HTry
              go_wp2_with (fail)
              refine (runs_r w4 _ _ i _ _ 1 ht4.out c (by omega) (by omega) (by omega) (updI_range none_range _ _ (by omega)) 0 (runs_T i c h3)).mono ?_
              rintro e w5 ⟨rfl, k⟩
              have hu5 := Lib.hid (hu4.out.kept k id id)
              have ht5 := Lib.hid (ht4.out.kept k id id)
              have hk5 := Lib.hid (hk4.out.trans k)
              clear k hu4 ht4 hk4
              go_wp2_with (fail)
              have rU : ∀ x : Int, x = c ∨ x = (i : Int) - 1 → runsF (nxt (hU i) W) ((i : Int).toNat + 1) [] x = c := by
                intro x hx
                by_cases hc : c = i - 1
                · rw [show x = (i : Int) - 1 by omega]
                  exact runs_last i c hc (by omega) W (by rw [hW.out, if_pos hc])
                · rw [hW.out, if_neg hc]
                  rcases hx with rfl | rfl
                  · exact runs_C i c (by omega)
                  · exact runs_C' i c (by omega)
              have RU := Lib.hid rU
              clear rU
              refine (runs_r w5 _ _ i _ _ _ hu5.out ((i : Int) - 1) (by omega) (by omega) (by omega) (hU_range i) c (RU.out _ (.inr rfl))).mono ?_
              rintro e w6 ⟨rfl, k⟩
              have hu6 := Lib.hid (hu5.out.kept k id id)
              have ht6 := Lib.hid (ht5.out.kept k id id)
              have hk6 := Lib.hid (hk5.out.trans k)
              clear k hu5 ht5 hk5
              go_wp2_with (fail)
              refine (runs_r w6 _ _ i _ _ _ hu6.out c (by omega) (by omega) (by omega) (hU_range i) c (RU.out _ (.inl rfl))).mono ?_
              rintro e w7 ⟨rfl, k⟩
              have ht7 := Lib.hid (ht6.out.kept k id id)
              have hk7 := Lib.hid (hk6.out.trans k)
              clear k hu6 ht6 hk6 RU
              go_wp2_with (fail)
              refine (release_r w7 _ _ i _ _ 1 ht7.out 0 8 (by omega) (by omega) (by omega) (by decide) true (by decide)).mono ?_
              rintro e w8 ⟨rfl, t, k⟩
              have ht8 := Lib.hid t
              have hk8 := Lib.hid (hk7.out.two k (by omega) (by omega))
              clear t k ht7 hk7
              go_wp2_with (fail)
              have HNo := Lib.hid rel_none
              refine (runs_r w8 _ _ i _ _ 1 ht8.out c (by omega) (by omega) (by omega) (fun a x h => by rw [HNo.out a] at h; cases h) c (runs_none i c _ _ HNo.out)).mono ?_
              rintro e w9 ⟨rfl, k⟩
              have hk9 := Lib.hid (hk8.out.trans k)
              clear k ht8 hk8 HNo
              go_wp2_with (fail)
              refine (known_any w9).mono ?_
              rintro e w10 ⟨rfl, k⟩
              have hk10 := Lib.hid (hk9.out.trans k)
              clear k hk9
              go_wp2_with (fail)
              go_ret
              exact ⟨rfl, hk10.out⟩

theorem lockRuns_any (n c : Int) (w0 : (Lit.int .i64 n).wf = true) (w1 : (Lit.int .i64 c).wf = true) (w : World) : Calls Try.prog 3 #[.int .i64 n, .int .i64 c] w fun e w' => e = .returned (.bool true) ∧ Below w.heap.size w w' := by
  by_cases h : n < 2 ∨ 64 < n ∨ c < 0 ∨ n ≤ c
  · exact (lockRuns_out n c w h).mono fun e w' ⟨he, hk⟩ => ⟨he, hk.below⟩
  · obtain ⟨n, rfl⟩ := Int.eq_ofNat_of_zero_le (show 0 ≤ n by omega)
    obtain ⟨c, rfl⟩ := Int.eq_ofNat_of_zero_le (show 0 ≤ c by omega)
    exact (lockRuns_in n c w (by omega) (by omega) (by omega)).mono fun e w' ⟨he, hk⟩ => ⟨he, hk.below⟩
end Go.Proofs.Ytajccnmeijgagaa
