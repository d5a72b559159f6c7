/-
  LockOne: THE WALK.
-/
import Derived.Test.YtajccnmeijgagaaLp
namespace Go.Proofs.Ytajccnmeijgagaa
open Go.RowKit Go.Maps

theorem one_new (n : Int) (h : n < 1 ∨ 64 < n) (w : World) : Calls Try.prog 8 #[.int .i64 n] w fun e w' => e = .returned (.tuple #[.pointer none, .int .i64 2]) ∧ Keeps NoB w w' := by
  refine (new_no n h w).mono ?_
  rintro e w' ⟨rfl, h⟩
  exact ⟨rfl, by first | exact Keeps.of_below' h | (subst h; exact Keeps.refl _ _) | (obtain rfl := h; exact (Keeps.refl _ _).alloc _)⟩

set_option maxRecDepth 100000 in
/-- the guards let it out -/
theorem one_out (n : Int) (a : Option Addr) (len : Nat) (cap : Nat) (w : World) (h : 100 < len ∨ 8 < n ∨ n < 1) (hlen : len ≤ maxLen) :
    Calls Try.prog 4 #[.int .i64 n, .slice a len cap] w fun e w' => e = .returned (.bool true) ∧ Keeps NoB w w' := by
  unfold maxLen at hlen
  by_cases h1 : n < 1
  · have d1 : decide (n < 1) = true := decide_eq_true h1
    have b1 : ¬ (64 : Int) < n := by omega
    have H := Lib.hid (one_new n (.inl h1) w)
    by_cases h2 : (100 : Int) < (len : Int)
    all_goals
      by_cases h3 : (8 : Int) < n
      · omega
      · go_enter Try.func4, Try.ntmps4
        go_wp2_with (first
          | (go_at_call 8; refine H.out.mono ?_; rintro e w1 ⟨rfl, k1⟩)
          | (go_at_call 7; refine (known_any _).mono ?_; rintro e w' ⟨rfl, hk⟩))
        go_ret
        exact ⟨rfl, k1.trans hk⟩
  · have d1 : decide (n < 1) = false := decide_eq_false h1
    by_cases h64 : (64 : Int) < n
    · have d2 : decide ((64 : Int) < n) = true := decide_eq_true h64
      have H := Lib.hid (one_new n (.inr h64) w)
      by_cases h2 : (100 : Int) < (len : Int)
      all_goals
        have h3 : (8 : Int) < n := by omega
        go_enter Try.func4, Try.ntmps4
        go_wp2_with (first
          | (go_at_call 8; refine H.out.mono ?_; rintro e w1 ⟨rfl, k1⟩)
          | (go_at_call 7; refine (known_any _).mono ?_; rintro e w' ⟨rfl, hk⟩))
        go_ret
        exact ⟨rfl, k1.trans hk⟩
    · have d2 : decide ((64 : Int) < n) = false := decide_eq_false h64
      have H := Lib.hid ((new_tab n (by omega) (by omega) w).mono (R' := fun e w' => e = .returned (.tuple #[.pointer (some ⟨w.heap.size + 1, 0, none⟩), .int .i64 0]) ∧ Keeps NoB w w') fun e w' hh => ⟨hh.1, hh.2.2.1⟩)
      by_cases h2 : (100 : Int) < (len : Int)
      · by_cases h3 : (8 : Int) < n
        all_goals
          go_enter Try.func4, Try.ntmps4
          go_wp2_with (first
            | (go_at_call 8; refine H.out.mono ?_; rintro e w1 ⟨rfl, k1⟩)
            | (go_at_call 7; refine (known_any _).mono ?_; rintro e w' ⟨rfl, hk⟩))
          go_ret
          exact ⟨rfl, k1.trans hk⟩
      · have h3 : (8 : Int) < n := by omega
        go_enter Try.func4, Try.ntmps4
        go_wp2_with (first
          | (go_at_call 8; refine H.out.mono ?_; rintro e w1 ⟨rfl, k1⟩)
          | (go_at_call 7; refine (known_any _).mono ?_; rintro e w' ⟨rfl, hk⟩))
        go_ret
        exact ⟨rfl, k1.trans hk⟩

set_option maxRecDepth 100000 in
set_option maxHeartbeats 2000000 in
theorem one_in (n : Int) (l : List (Int × Int × Int)) (a : Option Addr) (cap g o : Nat) (w : World) (h1 : 1 ≤ n) (h8 : n ≤ 8) (hl : l.length ≤ 100) (ha : 0 < l.length → a = some ⟨g, o, none⟩ ∧ g < w.heap.size ∧ ActsAt w g o l) :
    Calls Try.prog 4 #[.int .i64 n, .slice a l.length cap] w fun e w' => e = .returned (.bool true) ∧ Keeps NoB w w' := by
  have b1 : ¬ (8 : Int) < n := by omega
  have b2 : ¬ (100 : Int) < (l.length : Int) := by omega
  have HN := Lib.hid (new_tab n (by omega) (by omega) w)
  have HA := Lib.hid ha
  clear ha
  go_enter Try.func4, Try.ntmps4
  go_wp2_with (fail)
  refine HN.out.mono ?_
  rintro e w1 ⟨rfl, t1, k1, s1⟩
  have HT := Lib.hid t1
  have HK := Lib.hid k1
  obtain ⟨b, hb⟩ : ∃ b, b = w.heap.size + 1 := ⟨_, rfl⟩
  obtain ⟨m, hm⟩ : ∃ m, m = w.heap.size := ⟨_, rfl⟩
  rw [← hb, ← hm] at HT
  rw [← hb]
  have g1 : w.heap.size ≤ m := by omega
  have g2 : m < b := by omega
  have g1' : w.heap.size ≤ b := by omega
  clear t1 k1 s1 HN hb hm
  go_wp2_with (fail)
  go_loopw [7] (fun i wr => ∃ (j : Nat) (h : Int → Option Int) (W : Nat → Int), j ≤ l.length ∧ i = .int .i64 j ∧ Hid (Tab wr b m n h W j) ∧ Hid (Rng n h) ∧ Hid (Keeps NoB w wr)) (fun i _ => l.length - (intOf i).toNat)
  case atStart => exact ⟨0, _, _, by omega, rfl, HT, Lib.hid (fun a x h => by cases h), HK⟩
  case round =>
    obtain ⟨j, h, W, hj, rfl, ht, hv, hk⟩ := hrel
    clear HT HK
    by_cases hlt : j < l.length
    · obtain ⟨rfl, hg, hact⟩ := HA.out (by omega)
      obtain ⟨c0, c1, c2, hid⟩ := hact.kept hk.out hg j hlt
      generalize (l.getD j (0, 0, 0)).1 = kind at *
      generalize (l.getD j (0, 0, 0)).2.1 = c at *
      generalize (l.getD j (0, 0, 0)).2.2 = ad at *
      have HID := Lib.hid hid
      clear hact hid
      go_wp2_with (fail)
      have kA : Keeps NoB wr (wr.alloc (.cells #[.int .i64 kind, .int .i64 c, .int .u64 ad] 34)) := (Keeps.refl _ _).alloc _
      have hX := Blk.new wr #[.int .i64 kind, .int .i64 c, .int .u64 ad] 34
      have HX := Lib.hid hX
      have HT2 := Lib.hid (ht.out.kept kA (fun h => h) (fun h => h))
      have HK2 := Lib.hid (hk.out.trans kA)
      obtain ⟨ba, hba⟩ : ∃ ba, wr.heap.size = ba := ⟨_, rfl⟩
      have n1 : b < ba := by rw [← hba]; exact ht.out.blk.lt
      have n2 : m < ba := by omega
      rw [hba] at HX ⊢
      generalize wr.alloc (.cells #[.int .i64 kind, .int .i64 c, .int .u64 ad] 34) = w2 at *
      clear hX kA ht hk c0 c1 c2 hba hg
      have x0 : w2.cell? ⟨ba, 0, none⟩ = some (.int .i64 kind) := by rw [HX.out.cell]; rfl
      have x1 : w2.cell? ⟨ba, 1, none⟩ = some (.int .i64 c) := by rw [HX.out.cell]; rfl
      have x2 : w2.cell? ⟨ba, 2, none⟩ = some (.int .u64 ad) := by rw [HX.out.cell]; rfl
      have hnb : ¬ Two b m ba := by unfold Two; omega
      have HNB := Lib.hid hnb
      clear hnb
      have hx0 : h ad = none ∨ ∃ x, h ad = some x := by cases h ad with
        | none => exact .inl rfl
        | some x => exact .inr ⟨x, rfl⟩
      rcases hx0 with hx | ⟨x, hx⟩
      · have HXX := Lib.hid hx
        clear hx
        refine (holder_no w2 b m n h W j HT2.out (by omega) ad HID.out HXX.out).mono ?_
        rintro e w3 ⟨rfl, rfl⟩
        by_cases hk1 : kind = 1
        · subst hk1
          cases hq : tryB n h c ad
          · have HQ := Lib.hid hq
            clear hq
            have HR := Lib.hid (show tryH n h c ad ad = none by unfold tryH; rw [HQ.out]; exact HXX.out)
            go_wp2_with (fail)
            refine (try_f w2 b m n h W j HT2.out (by unfold maxLen; omega) (by omega) (by omega) c ad HID.out _ HQ.out).mono ?_
            rintro e w3 ⟨rfl, t3, k3⟩
            have HT3 := Lib.hid t3
            have HK3 := Lib.hid (HK2.out.two k3 g1' g1)
            have HV3 := Lib.hid (rng_try hv.out c ad)
            have HX3 := HX.out.kept k3 HNB.out
            have y0 : w3.cell? ⟨ba, 0, none⟩ = some (.int .i64 1) := by rw [HX3.cell]; rfl
            have y1 : w3.cell? ⟨ba, 1, none⟩ = some (.int .i64 c) := by rw [HX3.cell]; rfl
            have y2 : w3.cell? ⟨ba, 2, none⟩ = some (.int .u64 ad) := by rw [HX3.cell]; rfl
            clear t3 k3 HX3 x0 x1 x2
            go_wp2_with (fail)
            refine (holder_no w3 b m n _ _ _ HT3.out (by omega) ad HID.out HR.out).mono ?_
            rintro e w4 ⟨rfl, rfl⟩
            go_wp2_with (fail)
            obtain ⟨h3, W3, HT4, HV4⟩ : ∃ (h3 : Int → Option Int) (W3 : Nat → Int), Hid (Tab w3 b m n h3 W3 (j + 1)) ∧ Hid (Rng n h3) := ⟨_, _, HT3, HV3⟩
            obtain ⟨w4, rfl⟩ : ∃ w4 : World, w4 = w3 := ⟨_, rfl⟩
            clear HX HXX HT2 HK2 hv HT3 HV3
            go_loopw [14] (fun ci wr => ∃ q : Nat, (q : Int) ≤ n ∧ ci = .int .i64 q ∧ Hid (Tab wr b m n h3 W3 (j + 1)) ∧ Hid (Keeps NoB w wr)) (fun ci _ => n.toNat - (intOf ci).toNat)
            case atStart => exact ⟨0, by omega, rfl, HT4, HK3⟩
            case round =>
              obtain ⟨q, hq, rfl, ht, hk⟩ := hrel
              clear HT4 HK3
              by_cases hlt2 : (q : Int) < n
              · go_wp2_with (fail)
                refine (held_calls wr b m n h3 W3 (j + 1) ht.out q (by omega) hlt2 (by omega)).mono ?_
                rintro e w5 ⟨v, xs, rfl, hx, hown, hB⟩
                have k5 := Keeps.of_below' hB
                have HT5 := Lib.hid (ht.out.kept k5 (fun h => h) (fun h => h))
                have HK5 := Lib.hid (hk.out.trans k5)
                clear ht hk
                rcases own_cases hown with ⟨h0, a, c9, rfl⟩ | ⟨hpos, gg, cap9, rfl, _, hgg, _, _, hcell, _⟩
                · have HX := Lib.hid hx
                  clear hx k5 hB h0 hown
                  go_wp2_with (fail)
                  refine wp_loop_rounds 1 ?_
                  rw [rounds_succ]
                  go_wp2_with (fail)
                  go_roundw
                  case rel => exact ⟨q + 1, by omega, by go_num, HT5, HK5⟩
                  case measure => simp [intOf]; omega
                · have HX := Lib.hid hx
                  have HC := Lib.hid hcell
                  have hlen : (srt xs).length ≤ maxLen := by omega
                  unfold maxLen at hlen
                  clear hx k5 hB hown hcell
                  go_wp2_with (fail)
                  go_loop [16] (fun ki => ∃ z : Nat, z ≤ (srt xs).length ∧ ki = .int .i64 z) (fun ki => (srt xs).length - (intOf ki).toNat)
                  case atStart => exact ⟨0, by omega, rfl⟩
                  case round =>
                    obtain ⟨z, hz, rfl⟩ := hrel
                    by_cases hlt3 : z < (srt xs).length
                    · have hcz := HC.out z hlt3
                      obtain ⟨y, hy⟩ : ∃ y, y = (srt xs)[z] := ⟨_, rfl⟩
                      have hym : y ∈ xs := (srt_mem xs y).1 (by rw [hy]; exact List.getElem_mem _)
                      have hh3 := Lib.hid ((HX.out.2.1 y).1 hym)
                      have hwf := Lib.hid (HX.out.2.2 y hym)
                      rw [List.getElem?_map, List.getElem?_eq_getElem hlt3, ← hy] at hcz
                      simp only [Option.map_some] at hcz
                      clear hy hym
                      go_wp2_with (fail)
                      refine (holder_is w5 b m n _ _ _ HT5.out (by omega) y hwf.out q hh3.out).mono ?_
                      rintro e w6 ⟨rfl, rfl⟩
                      go_wp2_with (fail)
                      go_round
                      case rel => exact ⟨z + 1, by omega, by go_num⟩
                      case measure => simp [intOf]; omega
                    · go_wp2_with (fail)
                      go_roundw
                      case rel => exact ⟨q + 1, by omega, by go_num, HT5, HK5⟩
                      case measure => simp [intOf]; omega
              · go_wp2_with (fail)
                go_roundw
                case rel => exact ⟨j + 1, h3, W3, by omega, by go_num, ht, HV4, hk⟩
                case measure => simp [intOf]; omega
          · have HQ := Lib.hid hq
            clear hq
            have HR := Lib.hid (show tryH n h c ad ad = some c by unfold tryH; rw [HQ.out]; simp [updI])
            go_wp2_with (fail)
            refine (try_f w2 b m n h W j HT2.out (by unfold maxLen; omega) (by omega) (by omega) c ad HID.out _ HQ.out).mono ?_
            rintro e w3 ⟨rfl, t3, k3⟩
            have HT3 := Lib.hid t3
            have HK3 := Lib.hid (HK2.out.two k3 g1' g1)
            have HV3 := Lib.hid (rng_try hv.out c ad)
            have HX3 := HX.out.kept k3 HNB.out
            have y0 : w3.cell? ⟨ba, 0, none⟩ = some (.int .i64 1) := by rw [HX3.cell]; rfl
            have y1 : w3.cell? ⟨ba, 1, none⟩ = some (.int .i64 c) := by rw [HX3.cell]; rfl
            have y2 : w3.cell? ⟨ba, 2, none⟩ = some (.int .u64 ad) := by rw [HX3.cell]; rfl
            clear t3 k3 HX3 x0 x1 x2
            go_wp2_with (fail)
            refine (holder_is w3 b m n _ _ _ HT3.out (by omega) ad HID.out c HR.out).mono ?_
            rintro e w4 ⟨rfl, rfl⟩
            go_wp2_with (fail)
            obtain ⟨h3, W3, HT4, HV4⟩ : ∃ (h3 : Int → Option Int) (W3 : Nat → Int), Hid (Tab w3 b m n h3 W3 (j + 1)) ∧ Hid (Rng n h3) := ⟨_, _, HT3, HV3⟩
            obtain ⟨w4, rfl⟩ : ∃ w4 : World, w4 = w3 := ⟨_, rfl⟩
            clear HX HXX HT2 HK2 hv HT3 HV3
            go_loopw [14] (fun ci wr => ∃ q : Nat, (q : Int) ≤ n ∧ ci = .int .i64 q ∧ Hid (Tab wr b m n h3 W3 (j + 1)) ∧ Hid (Keeps NoB w wr)) (fun ci _ => n.toNat - (intOf ci).toNat)
            case atStart => exact ⟨0, by omega, rfl, HT4, HK3⟩
            case round =>
              obtain ⟨q, hq, rfl, ht, hk⟩ := hrel
              clear HT4 HK3
              by_cases hlt2 : (q : Int) < n
              · go_wp2_with (fail)
                refine (held_calls wr b m n h3 W3 (j + 1) ht.out q (by omega) hlt2 (by omega)).mono ?_
                rintro e w5 ⟨v, xs, rfl, hx, hown, hB⟩
                have k5 := Keeps.of_below' hB
                have HT5 := Lib.hid (ht.out.kept k5 (fun h => h) (fun h => h))
                have HK5 := Lib.hid (hk.out.trans k5)
                clear ht hk
                rcases own_cases hown with ⟨h0, a, c9, rfl⟩ | ⟨hpos, gg, cap9, rfl, _, hgg, _, _, hcell, _⟩
                · have HX := Lib.hid hx
                  clear hx k5 hB h0 hown
                  go_wp2_with (fail)
                  refine wp_loop_rounds 1 ?_
                  rw [rounds_succ]
                  go_wp2_with (fail)
                  go_roundw
                  case rel => exact ⟨q + 1, by omega, by go_num, HT5, HK5⟩
                  case measure => simp [intOf]; omega
                · have HX := Lib.hid hx
                  have HC := Lib.hid hcell
                  have hlen : (srt xs).length ≤ maxLen := by omega
                  unfold maxLen at hlen
                  clear hx k5 hB hown hcell
                  go_wp2_with (fail)
                  go_loop [16] (fun ki => ∃ z : Nat, z ≤ (srt xs).length ∧ ki = .int .i64 z) (fun ki => (srt xs).length - (intOf ki).toNat)
                  case atStart => exact ⟨0, by omega, rfl⟩
                  case round =>
                    obtain ⟨z, hz, rfl⟩ := hrel
                    by_cases hlt3 : z < (srt xs).length
                    · have hcz := HC.out z hlt3
                      obtain ⟨y, hy⟩ : ∃ y, y = (srt xs)[z] := ⟨_, rfl⟩
                      have hym : y ∈ xs := (srt_mem xs y).1 (by rw [hy]; exact List.getElem_mem _)
                      have hh3 := Lib.hid ((HX.out.2.1 y).1 hym)
                      have hwf := Lib.hid (HX.out.2.2 y hym)
                      rw [List.getElem?_map, List.getElem?_eq_getElem hlt3, ← hy] at hcz
                      simp only [Option.map_some] at hcz
                      clear hy hym
                      go_wp2_with (fail)
                      refine (holder_is w5 b m n _ _ _ HT5.out (by omega) y hwf.out q hh3.out).mono ?_
                      rintro e w6 ⟨rfl, rfl⟩
                      go_wp2_with (fail)
                      go_round
                      case rel => exact ⟨z + 1, by omega, by go_num⟩
                      case measure => simp [intOf]; omega
                    · go_wp2_with (fail)
                      go_roundw
                      case rel => exact ⟨q + 1, by omega, by go_num, HT5, HK5⟩
                      case measure => simp [intOf]; omega
              · go_wp2_with (fail)
                go_roundw
                case rel => exact ⟨j + 1, h3, W3, by omega, by go_num, ht, HV4, hk⟩
                case measure => simp [intOf]; omega
        · have hk1' : (kind == 1) = false := by simpa using hk1
          by_cases hk2 : kind = 2
          · subst hk2
            clear hk1 hk1'
            have HQ := Lib.hid (show relB n h c ad = false by unfold relB; rw [HXX.out]; simp)
            go_wp2_with (fail)
            refine (rel_f w2 b m n h W j HT2.out (by omega) (by omega) c ad HID.out _ HQ.out).mono ?_
            rintro e w3 ⟨rfl, t3, k3⟩
            have HT3 := Lib.hid (t3.mono (Nat.le_succ j))
            have HK3 := Lib.hid (HK2.out.two k3 g1' g1)
            have HV3 := Lib.hid (rng_rel hv.out c ad)
            have HX3 := HX.out.kept k3 HNB.out
            have y0 : w3.cell? ⟨ba, 0, none⟩ = some (.int .i64 2) := by rw [HX3.cell]; rfl
            have y1 : w3.cell? ⟨ba, 1, none⟩ = some (.int .i64 c) := by rw [HX3.cell]; rfl
            have y2 : w3.cell? ⟨ba, 2, none⟩ = some (.int .u64 ad) := by rw [HX3.cell]; rfl
            clear t3 k3 HX3 x0 x1 x2
            go_wp2_with (fail)
            obtain ⟨h3, W3, HT4, HV4⟩ : ∃ (h3 : Int → Option Int) (W3 : Nat → Int), Hid (Tab w3 b m n h3 W3 (j + 1)) ∧ Hid (Rng n h3) := ⟨_, _, HT3, HV3⟩
            obtain ⟨w4, rfl⟩ : ∃ w4 : World, w4 = w3 := ⟨_, rfl⟩
            clear HX HXX HT2 HK2 hv HT3 HV3
            go_loopw [14] (fun ci wr => ∃ q : Nat, (q : Int) ≤ n ∧ ci = .int .i64 q ∧ Hid (Tab wr b m n h3 W3 (j + 1)) ∧ Hid (Keeps NoB w wr)) (fun ci _ => n.toNat - (intOf ci).toNat)
            case atStart => exact ⟨0, by omega, rfl, HT4, HK3⟩
            case round =>
              obtain ⟨q, hq, rfl, ht, hk⟩ := hrel
              clear HT4 HK3
              by_cases hlt2 : (q : Int) < n
              · go_wp2_with (fail)
                refine (held_calls wr b m n h3 W3 (j + 1) ht.out q (by omega) hlt2 (by omega)).mono ?_
                rintro e w5 ⟨v, xs, rfl, hx, hown, hB⟩
                have k5 := Keeps.of_below' hB
                have HT5 := Lib.hid (ht.out.kept k5 (fun h => h) (fun h => h))
                have HK5 := Lib.hid (hk.out.trans k5)
                clear ht hk
                rcases own_cases hown with ⟨h0, a, c9, rfl⟩ | ⟨hpos, gg, cap9, rfl, _, hgg, _, _, hcell, _⟩
                · have HX := Lib.hid hx
                  clear hx k5 hB h0 hown
                  go_wp2_with (fail)
                  refine wp_loop_rounds 1 ?_
                  rw [rounds_succ]
                  go_wp2_with (fail)
                  go_roundw
                  case rel => exact ⟨q + 1, by omega, by go_num, HT5, HK5⟩
                  case measure => simp [intOf]; omega
                · have HX := Lib.hid hx
                  have HC := Lib.hid hcell
                  have hlen : (srt xs).length ≤ maxLen := by omega
                  unfold maxLen at hlen
                  clear hx k5 hB hown hcell
                  go_wp2_with (fail)
                  go_loop [16] (fun ki => ∃ z : Nat, z ≤ (srt xs).length ∧ ki = .int .i64 z) (fun ki => (srt xs).length - (intOf ki).toNat)
                  case atStart => exact ⟨0, by omega, rfl⟩
                  case round =>
                    obtain ⟨z, hz, rfl⟩ := hrel
                    by_cases hlt3 : z < (srt xs).length
                    · have hcz := HC.out z hlt3
                      obtain ⟨y, hy⟩ : ∃ y, y = (srt xs)[z] := ⟨_, rfl⟩
                      have hym : y ∈ xs := (srt_mem xs y).1 (by rw [hy]; exact List.getElem_mem _)
                      have hh3 := Lib.hid ((HX.out.2.1 y).1 hym)
                      have hwf := Lib.hid (HX.out.2.2 y hym)
                      rw [List.getElem?_map, List.getElem?_eq_getElem hlt3, ← hy] at hcz
                      simp only [Option.map_some] at hcz
                      clear hy hym
                      go_wp2_with (fail)
                      refine (holder_is w5 b m n _ _ _ HT5.out (by omega) y hwf.out q hh3.out).mono ?_
                      rintro e w6 ⟨rfl, rfl⟩
                      go_wp2_with (fail)
                      go_round
                      case rel => exact ⟨z + 1, by omega, by go_num⟩
                      case measure => simp [intOf]; omega
                    · go_wp2_with (fail)
                      go_roundw
                      case rel => exact ⟨q + 1, by omega, by go_num, HT5, HK5⟩
                      case measure => simp [intOf]; omega
              · go_wp2_with (fail)
                go_roundw
                case rel => exact ⟨j + 1, h3, W3, by omega, by go_num, ht, HV4, hk⟩
                case measure => simp [intOf]; omega
          · have hk2' : (kind == 2) = false := by simpa using hk2
            clear hk1 hk2
            obtain ⟨w3, rfl⟩ : ∃ w3, w3 = w2 := ⟨_, rfl⟩
            have HT3 := Lib.hid (HT2.out.mono (Nat.le_succ j))
            have HK3 := HK2
            have HV3 := hv
            go_wp2_with (fail)
            obtain ⟨h3, W3, HT4, HV4⟩ : ∃ (h3 : Int → Option Int) (W3 : Nat → Int), Hid (Tab w3 b m n h3 W3 (j + 1)) ∧ Hid (Rng n h3) := ⟨_, _, HT3, HV3⟩
            obtain ⟨w4, rfl⟩ : ∃ w4 : World, w4 = w3 := ⟨_, rfl⟩
            clear HX HXX HT2 HK2 hv HT3 HV3
            go_loopw [14] (fun ci wr => ∃ q : Nat, (q : Int) ≤ n ∧ ci = .int .i64 q ∧ Hid (Tab wr b m n h3 W3 (j + 1)) ∧ Hid (Keeps NoB w wr)) (fun ci _ => n.toNat - (intOf ci).toNat)
            case atStart => exact ⟨0, by omega, rfl, HT4, HK3⟩
            case round =>
              obtain ⟨q, hq, rfl, ht, hk⟩ := hrel
              clear HT4 HK3
              by_cases hlt2 : (q : Int) < n
              · go_wp2_with (fail)
                refine (held_calls wr b m n h3 W3 (j + 1) ht.out q (by omega) hlt2 (by omega)).mono ?_
                rintro e w5 ⟨v, xs, rfl, hx, hown, hB⟩
                have k5 := Keeps.of_below' hB
                have HT5 := Lib.hid (ht.out.kept k5 (fun h => h) (fun h => h))
                have HK5 := Lib.hid (hk.out.trans k5)
                clear ht hk
                rcases own_cases hown with ⟨h0, a, c9, rfl⟩ | ⟨hpos, gg, cap9, rfl, _, hgg, _, _, hcell, _⟩
                · have HX := Lib.hid hx
                  clear hx k5 hB h0 hown
                  go_wp2_with (fail)
                  refine wp_loop_rounds 1 ?_
                  rw [rounds_succ]
                  go_wp2_with (fail)
                  go_roundw
                  case rel => exact ⟨q + 1, by omega, by go_num, HT5, HK5⟩
                  case measure => simp [intOf]; omega
                · have HX := Lib.hid hx
                  have HC := Lib.hid hcell
                  have hlen : (srt xs).length ≤ maxLen := by omega
                  unfold maxLen at hlen
                  clear hx k5 hB hown hcell
                  go_wp2_with (fail)
                  go_loop [16] (fun ki => ∃ z : Nat, z ≤ (srt xs).length ∧ ki = .int .i64 z) (fun ki => (srt xs).length - (intOf ki).toNat)
                  case atStart => exact ⟨0, by omega, rfl⟩
                  case round =>
                    obtain ⟨z, hz, rfl⟩ := hrel
                    by_cases hlt3 : z < (srt xs).length
                    · have hcz := HC.out z hlt3
                      obtain ⟨y, hy⟩ : ∃ y, y = (srt xs)[z] := ⟨_, rfl⟩
                      have hym : y ∈ xs := (srt_mem xs y).1 (by rw [hy]; exact List.getElem_mem _)
                      have hh3 := Lib.hid ((HX.out.2.1 y).1 hym)
                      have hwf := Lib.hid (HX.out.2.2 y hym)
                      rw [List.getElem?_map, List.getElem?_eq_getElem hlt3, ← hy] at hcz
                      simp only [Option.map_some] at hcz
                      clear hy hym
                      go_wp2_with (fail)
                      refine (holder_is w5 b m n _ _ _ HT5.out (by omega) y hwf.out q hh3.out).mono ?_
                      rintro e w6 ⟨rfl, rfl⟩
                      go_wp2_with (fail)
                      go_round
                      case rel => exact ⟨z + 1, by omega, by go_num⟩
                      case measure => simp [intOf]; omega
                    · go_wp2_with (fail)
                      go_roundw
                      case rel => exact ⟨q + 1, by omega, by go_num, HT5, HK5⟩
                      case measure => simp [intOf]; omega
              · go_wp2_with (fail)
                go_roundw
                case rel => exact ⟨j + 1, h3, W3, by omega, by go_num, ht, HV4, hk⟩
                case measure => simp [intOf]; omega
      · have HXX := Lib.hid hx
        have hxr := hv.out ad x hx
        clear hx
        refine (holder_is w2 b m n h W j HT2.out (by omega) ad HID.out x HXX.out).mono ?_
        rintro e w3 ⟨rfl, rfl⟩
        by_cases hk1 : kind = 1
        · subst hk1
          cases hq : tryB n h c ad
          · have HQ := Lib.hid hq
            clear hq
            have HR := Lib.hid (show tryH n h c ad ad = some x by unfold tryH; rw [HQ.out]; exact HXX.out)
            go_wp2_with (fail)
            refine (try_f w2 b m n h W j HT2.out (by unfold maxLen; omega) (by omega) (by omega) c ad HID.out _ HQ.out).mono ?_
            rintro e w3 ⟨rfl, t3, k3⟩
            have HT3 := Lib.hid t3
            have HK3 := Lib.hid (HK2.out.two k3 g1' g1)
            have HV3 := Lib.hid (rng_try hv.out c ad)
            have HX3 := HX.out.kept k3 HNB.out
            have y0 : w3.cell? ⟨ba, 0, none⟩ = some (.int .i64 1) := by rw [HX3.cell]; rfl
            have y1 : w3.cell? ⟨ba, 1, none⟩ = some (.int .i64 c) := by rw [HX3.cell]; rfl
            have y2 : w3.cell? ⟨ba, 2, none⟩ = some (.int .u64 ad) := by rw [HX3.cell]; rfl
            clear t3 k3 HX3 x0 x1 x2
            go_wp2_with (fail)
            refine (holder_is w3 b m n _ _ _ HT3.out (by omega) ad HID.out x HR.out).mono ?_
            rintro e w4 ⟨rfl, rfl⟩
            go_wp2_with (fail)
            obtain ⟨h3, W3, HT4, HV4⟩ : ∃ (h3 : Int → Option Int) (W3 : Nat → Int), Hid (Tab w3 b m n h3 W3 (j + 1)) ∧ Hid (Rng n h3) := ⟨_, _, HT3, HV3⟩
            obtain ⟨w4, rfl⟩ : ∃ w4 : World, w4 = w3 := ⟨_, rfl⟩
            clear HX HXX HT2 HK2 hv HT3 HV3
            go_loopw [14] (fun ci wr => ∃ q : Nat, (q : Int) ≤ n ∧ ci = .int .i64 q ∧ Hid (Tab wr b m n h3 W3 (j + 1)) ∧ Hid (Keeps NoB w wr)) (fun ci _ => n.toNat - (intOf ci).toNat)
            case atStart => exact ⟨0, by omega, rfl, HT4, HK3⟩
            case round =>
              obtain ⟨q, hq, rfl, ht, hk⟩ := hrel
              clear HT4 HK3
              by_cases hlt2 : (q : Int) < n
              · go_wp2_with (fail)
                refine (held_calls wr b m n h3 W3 (j + 1) ht.out q (by omega) hlt2 (by omega)).mono ?_
                rintro e w5 ⟨v, xs, rfl, hx, hown, hB⟩
                have k5 := Keeps.of_below' hB
                have HT5 := Lib.hid (ht.out.kept k5 (fun h => h) (fun h => h))
                have HK5 := Lib.hid (hk.out.trans k5)
                clear ht hk
                rcases own_cases hown with ⟨h0, a, c9, rfl⟩ | ⟨hpos, gg, cap9, rfl, _, hgg, _, _, hcell, _⟩
                · have HX := Lib.hid hx
                  clear hx k5 hB h0 hown
                  go_wp2_with (fail)
                  refine wp_loop_rounds 1 ?_
                  rw [rounds_succ]
                  go_wp2_with (fail)
                  go_roundw
                  case rel => exact ⟨q + 1, by omega, by go_num, HT5, HK5⟩
                  case measure => simp [intOf]; omega
                · have HX := Lib.hid hx
                  have HC := Lib.hid hcell
                  have hlen : (srt xs).length ≤ maxLen := by omega
                  unfold maxLen at hlen
                  clear hx k5 hB hown hcell
                  go_wp2_with (fail)
                  go_loop [16] (fun ki => ∃ z : Nat, z ≤ (srt xs).length ∧ ki = .int .i64 z) (fun ki => (srt xs).length - (intOf ki).toNat)
                  case atStart => exact ⟨0, by omega, rfl⟩
                  case round =>
                    obtain ⟨z, hz, rfl⟩ := hrel
                    by_cases hlt3 : z < (srt xs).length
                    · have hcz := HC.out z hlt3
                      obtain ⟨y, hy⟩ : ∃ y, y = (srt xs)[z] := ⟨_, rfl⟩
                      have hym : y ∈ xs := (srt_mem xs y).1 (by rw [hy]; exact List.getElem_mem _)
                      have hh3 := Lib.hid ((HX.out.2.1 y).1 hym)
                      have hwf := Lib.hid (HX.out.2.2 y hym)
                      rw [List.getElem?_map, List.getElem?_eq_getElem hlt3, ← hy] at hcz
                      simp only [Option.map_some] at hcz
                      clear hy hym
                      go_wp2_with (fail)
                      refine (holder_is w5 b m n _ _ _ HT5.out (by omega) y hwf.out q hh3.out).mono ?_
                      rintro e w6 ⟨rfl, rfl⟩
                      go_wp2_with (fail)
                      go_round
                      case rel => exact ⟨z + 1, by omega, by go_num⟩
                      case measure => simp [intOf]; omega
                    · go_wp2_with (fail)
                      go_roundw
                      case rel => exact ⟨q + 1, by omega, by go_num, HT5, HK5⟩
                      case measure => simp [intOf]; omega
              · go_wp2_with (fail)
                go_roundw
                case rel => exact ⟨j + 1, h3, W3, by omega, by go_num, ht, HV4, hk⟩
                case measure => simp [intOf]; omega
          · have HQ := Lib.hid hq
            have hxc : x = c := by
              unfold tryB at hq
              have := (of_decide_eq_true hq).2.2.2
              rw [HXX.out] at this
              rcases this with h | h
              · cases h
              · exact Option.some.inj h
            subst hxc
            clear hq
            have HR := Lib.hid (show tryH n h x ad ad = some x by unfold tryH; rw [HQ.out]; simp [updI])
            go_wp2_with (fail)
            refine (try_f w2 b m n h W j HT2.out (by unfold maxLen; omega) (by omega) (by omega) x ad HID.out _ HQ.out).mono ?_
            rintro e w3 ⟨rfl, t3, k3⟩
            have HT3 := Lib.hid t3
            have HK3 := Lib.hid (HK2.out.two k3 g1' g1)
            have HV3 := Lib.hid (rng_try hv.out x ad)
            have HX3 := HX.out.kept k3 HNB.out
            have y0 : w3.cell? ⟨ba, 0, none⟩ = some (.int .i64 1) := by rw [HX3.cell]; rfl
            have y1 : w3.cell? ⟨ba, 1, none⟩ = some (.int .i64 x) := by rw [HX3.cell]; rfl
            have y2 : w3.cell? ⟨ba, 2, none⟩ = some (.int .u64 ad) := by rw [HX3.cell]; rfl
            clear t3 k3 HX3 x0 x1 x2
            go_wp2_with (fail)
            refine (holder_is w3 b m n _ _ _ HT3.out (by omega) ad HID.out x HR.out).mono ?_
            rintro e w4 ⟨rfl, rfl⟩
            go_wp2_with (fail)
            obtain ⟨h3, W3, HT4, HV4⟩ : ∃ (h3 : Int → Option Int) (W3 : Nat → Int), Hid (Tab w3 b m n h3 W3 (j + 1)) ∧ Hid (Rng n h3) := ⟨_, _, HT3, HV3⟩
            obtain ⟨w4, rfl⟩ : ∃ w4 : World, w4 = w3 := ⟨_, rfl⟩
            clear HX HXX HT2 HK2 hv HT3 HV3
            go_loopw [14] (fun ci wr => ∃ q : Nat, (q : Int) ≤ n ∧ ci = .int .i64 q ∧ Hid (Tab wr b m n h3 W3 (j + 1)) ∧ Hid (Keeps NoB w wr)) (fun ci _ => n.toNat - (intOf ci).toNat)
            case atStart => exact ⟨0, by omega, rfl, HT4, HK3⟩
            case round =>
              obtain ⟨q, hq, rfl, ht, hk⟩ := hrel
              clear HT4 HK3
              by_cases hlt2 : (q : Int) < n
              · go_wp2_with (fail)
                refine (held_calls wr b m n h3 W3 (j + 1) ht.out q (by omega) hlt2 (by omega)).mono ?_
                rintro e w5 ⟨v, xs, rfl, hx, hown, hB⟩
                have k5 := Keeps.of_below' hB
                have HT5 := Lib.hid (ht.out.kept k5 (fun h => h) (fun h => h))
                have HK5 := Lib.hid (hk.out.trans k5)
                clear ht hk
                rcases own_cases hown with ⟨h0, a, c9, rfl⟩ | ⟨hpos, gg, cap9, rfl, _, hgg, _, _, hcell, _⟩
                · have HX := Lib.hid hx
                  clear hx k5 hB h0 hown
                  go_wp2_with (fail)
                  refine wp_loop_rounds 1 ?_
                  rw [rounds_succ]
                  go_wp2_with (fail)
                  go_roundw
                  case rel => exact ⟨q + 1, by omega, by go_num, HT5, HK5⟩
                  case measure => simp [intOf]; omega
                · have HX := Lib.hid hx
                  have HC := Lib.hid hcell
                  have hlen : (srt xs).length ≤ maxLen := by omega
                  unfold maxLen at hlen
                  clear hx k5 hB hown hcell
                  go_wp2_with (fail)
                  go_loop [16] (fun ki => ∃ z : Nat, z ≤ (srt xs).length ∧ ki = .int .i64 z) (fun ki => (srt xs).length - (intOf ki).toNat)
                  case atStart => exact ⟨0, by omega, rfl⟩
                  case round =>
                    obtain ⟨z, hz, rfl⟩ := hrel
                    by_cases hlt3 : z < (srt xs).length
                    · have hcz := HC.out z hlt3
                      obtain ⟨y, hy⟩ : ∃ y, y = (srt xs)[z] := ⟨_, rfl⟩
                      have hym : y ∈ xs := (srt_mem xs y).1 (by rw [hy]; exact List.getElem_mem _)
                      have hh3 := Lib.hid ((HX.out.2.1 y).1 hym)
                      have hwf := Lib.hid (HX.out.2.2 y hym)
                      rw [List.getElem?_map, List.getElem?_eq_getElem hlt3, ← hy] at hcz
                      simp only [Option.map_some] at hcz
                      clear hy hym
                      go_wp2_with (fail)
                      refine (holder_is w5 b m n _ _ _ HT5.out (by omega) y hwf.out q hh3.out).mono ?_
                      rintro e w6 ⟨rfl, rfl⟩
                      go_wp2_with (fail)
                      go_round
                      case rel => exact ⟨z + 1, by omega, by go_num⟩
                      case measure => simp [intOf]; omega
                    · go_wp2_with (fail)
                      go_roundw
                      case rel => exact ⟨q + 1, by omega, by go_num, HT5, HK5⟩
                      case measure => simp [intOf]; omega
              · go_wp2_with (fail)
                go_roundw
                case rel => exact ⟨j + 1, h3, W3, by omega, by go_num, ht, HV4, hk⟩
                case measure => simp [intOf]; omega
        · have hk1' : (kind == 1) = false := by simpa using hk1
          by_cases hk2 : kind = 2
          · subst hk2
            clear hk1 hk1'
            by_cases hxc : x = c
            · subst hxc
              have HQ := Lib.hid (show relB n h x ad = true by unfold relB; rw [HXX.out]; simp; omega)
              go_wp2_with (fail)
              refine (rel_f w2 b m n h W j HT2.out (by omega) (by omega) x ad HID.out _ HQ.out).mono ?_
              rintro e w3 ⟨rfl, t3, k3⟩
              have HT3 := Lib.hid (t3.mono (Nat.le_succ j))
              have HK3 := Lib.hid (HK2.out.two k3 g1' g1)
              have HV3 := Lib.hid (rng_rel hv.out x ad)
              have HX3 := HX.out.kept k3 HNB.out
              have y0 : w3.cell? ⟨ba, 0, none⟩ = some (.int .i64 2) := by rw [HX3.cell]; rfl
              have y1 : w3.cell? ⟨ba, 1, none⟩ = some (.int .i64 x) := by rw [HX3.cell]; rfl
              have y2 : w3.cell? ⟨ba, 2, none⟩ = some (.int .u64 ad) := by rw [HX3.cell]; rfl
              clear t3 k3 HX3 x0 x1 x2
              go_wp2_with (fail)
              obtain ⟨h3, W3, HT4, HV4⟩ : ∃ (h3 : Int → Option Int) (W3 : Nat → Int), Hid (Tab w3 b m n h3 W3 (j + 1)) ∧ Hid (Rng n h3) := ⟨_, _, HT3, HV3⟩
              obtain ⟨w4, rfl⟩ : ∃ w4 : World, w4 = w3 := ⟨_, rfl⟩
              clear HX HXX HT2 HK2 hv HT3 HV3
              go_loopw [14] (fun ci wr => ∃ q : Nat, (q : Int) ≤ n ∧ ci = .int .i64 q ∧ Hid (Tab wr b m n h3 W3 (j + 1)) ∧ Hid (Keeps NoB w wr)) (fun ci _ => n.toNat - (intOf ci).toNat)
              case atStart => exact ⟨0, by omega, rfl, HT4, HK3⟩
              case round =>
                obtain ⟨q, hq, rfl, ht, hk⟩ := hrel
                clear HT4 HK3
                by_cases hlt2 : (q : Int) < n
                · go_wp2_with (fail)
                  refine (held_calls wr b m n h3 W3 (j + 1) ht.out q (by omega) hlt2 (by omega)).mono ?_
                  rintro e w5 ⟨v, xs, rfl, hx, hown, hB⟩
                  have k5 := Keeps.of_below' hB
                  have HT5 := Lib.hid (ht.out.kept k5 (fun h => h) (fun h => h))
                  have HK5 := Lib.hid (hk.out.trans k5)
                  clear ht hk
                  rcases own_cases hown with ⟨h0, a, c9, rfl⟩ | ⟨hpos, gg, cap9, rfl, _, hgg, _, _, hcell, _⟩
                  · have HX := Lib.hid hx
                    clear hx k5 hB h0 hown
                    go_wp2_with (fail)
                    refine wp_loop_rounds 1 ?_
                    rw [rounds_succ]
                    go_wp2_with (fail)
                    go_roundw
                    case rel => exact ⟨q + 1, by omega, by go_num, HT5, HK5⟩
                    case measure => simp [intOf]; omega
                  · have HX := Lib.hid hx
                    have HC := Lib.hid hcell
                    have hlen : (srt xs).length ≤ maxLen := by omega
                    unfold maxLen at hlen
                    clear hx k5 hB hown hcell
                    go_wp2_with (fail)
                    go_loop [16] (fun ki => ∃ z : Nat, z ≤ (srt xs).length ∧ ki = .int .i64 z) (fun ki => (srt xs).length - (intOf ki).toNat)
                    case atStart => exact ⟨0, by omega, rfl⟩
                    case round =>
                      obtain ⟨z, hz, rfl⟩ := hrel
                      by_cases hlt3 : z < (srt xs).length
                      · have hcz := HC.out z hlt3
                        obtain ⟨y, hy⟩ : ∃ y, y = (srt xs)[z] := ⟨_, rfl⟩
                        have hym : y ∈ xs := (srt_mem xs y).1 (by rw [hy]; exact List.getElem_mem _)
                        have hh3 := Lib.hid ((HX.out.2.1 y).1 hym)
                        have hwf := Lib.hid (HX.out.2.2 y hym)
                        rw [List.getElem?_map, List.getElem?_eq_getElem hlt3, ← hy] at hcz
                        simp only [Option.map_some] at hcz
                        clear hy hym
                        go_wp2_with (fail)
                        refine (holder_is w5 b m n _ _ _ HT5.out (by omega) y hwf.out q hh3.out).mono ?_
                        rintro e w6 ⟨rfl, rfl⟩
                        go_wp2_with (fail)
                        go_round
                        case rel => exact ⟨z + 1, by omega, by go_num⟩
                        case measure => simp [intOf]; omega
                      · go_wp2_with (fail)
                        go_roundw
                        case rel => exact ⟨q + 1, by omega, by go_num, HT5, HK5⟩
                        case measure => simp [intOf]; omega
                · go_wp2_with (fail)
                  go_roundw
                  case rel => exact ⟨j + 1, h3, W3, by omega, by go_num, ht, HV4, hk⟩
                  case measure => simp [intOf]; omega
            · have HQ := Lib.hid (show relB n h c ad = false by unfold relB; rw [HXX.out]; simp [hxc])
              have hxc' : (x == c) = false := by simpa using hxc
              clear hxc
              go_wp2_with (fail)
              refine (rel_f w2 b m n h W j HT2.out (by omega) (by omega) c ad HID.out _ HQ.out).mono ?_
              rintro e w3 ⟨rfl, t3, k3⟩
              have HT3 := Lib.hid (t3.mono (Nat.le_succ j))
              have HK3 := Lib.hid (HK2.out.two k3 g1' g1)
              have HV3 := Lib.hid (rng_rel hv.out c ad)
              have HX3 := HX.out.kept k3 HNB.out
              have y0 : w3.cell? ⟨ba, 0, none⟩ = some (.int .i64 2) := by rw [HX3.cell]; rfl
              have y1 : w3.cell? ⟨ba, 1, none⟩ = some (.int .i64 c) := by rw [HX3.cell]; rfl
              have y2 : w3.cell? ⟨ba, 2, none⟩ = some (.int .u64 ad) := by rw [HX3.cell]; rfl
              clear t3 k3 HX3 x0 x1 x2
              go_wp2_with (fail)
              obtain ⟨h3, W3, HT4, HV4⟩ : ∃ (h3 : Int → Option Int) (W3 : Nat → Int), Hid (Tab w3 b m n h3 W3 (j + 1)) ∧ Hid (Rng n h3) := ⟨_, _, HT3, HV3⟩
              obtain ⟨w4, rfl⟩ : ∃ w4 : World, w4 = w3 := ⟨_, rfl⟩
              clear HX HXX HT2 HK2 hv HT3 HV3
              go_loopw [14] (fun ci wr => ∃ q : Nat, (q : Int) ≤ n ∧ ci = .int .i64 q ∧ Hid (Tab wr b m n h3 W3 (j + 1)) ∧ Hid (Keeps NoB w wr)) (fun ci _ => n.toNat - (intOf ci).toNat)
              case atStart => exact ⟨0, by omega, rfl, HT4, HK3⟩
              case round =>
                obtain ⟨q, hq, rfl, ht, hk⟩ := hrel
                clear HT4 HK3
                by_cases hlt2 : (q : Int) < n
                · go_wp2_with (fail)
                  refine (held_calls wr b m n h3 W3 (j + 1) ht.out q (by omega) hlt2 (by omega)).mono ?_
                  rintro e w5 ⟨v, xs, rfl, hx, hown, hB⟩
                  have k5 := Keeps.of_below' hB
                  have HT5 := Lib.hid (ht.out.kept k5 (fun h => h) (fun h => h))
                  have HK5 := Lib.hid (hk.out.trans k5)
                  clear ht hk
                  rcases own_cases hown with ⟨h0, a, c9, rfl⟩ | ⟨hpos, gg, cap9, rfl, _, hgg, _, _, hcell, _⟩
                  · have HX := Lib.hid hx
                    clear hx k5 hB h0 hown
                    go_wp2_with (fail)
                    refine wp_loop_rounds 1 ?_
                    rw [rounds_succ]
                    go_wp2_with (fail)
                    go_roundw
                    case rel => exact ⟨q + 1, by omega, by go_num, HT5, HK5⟩
                    case measure => simp [intOf]; omega
                  · have HX := Lib.hid hx
                    have HC := Lib.hid hcell
                    have hlen : (srt xs).length ≤ maxLen := by omega
                    unfold maxLen at hlen
                    clear hx k5 hB hown hcell
                    go_wp2_with (fail)
                    go_loop [16] (fun ki => ∃ z : Nat, z ≤ (srt xs).length ∧ ki = .int .i64 z) (fun ki => (srt xs).length - (intOf ki).toNat)
                    case atStart => exact ⟨0, by omega, rfl⟩
                    case round =>
                      obtain ⟨z, hz, rfl⟩ := hrel
                      by_cases hlt3 : z < (srt xs).length
                      · have hcz := HC.out z hlt3
                        obtain ⟨y, hy⟩ : ∃ y, y = (srt xs)[z] := ⟨_, rfl⟩
                        have hym : y ∈ xs := (srt_mem xs y).1 (by rw [hy]; exact List.getElem_mem _)
                        have hh3 := Lib.hid ((HX.out.2.1 y).1 hym)
                        have hwf := Lib.hid (HX.out.2.2 y hym)
                        rw [List.getElem?_map, List.getElem?_eq_getElem hlt3, ← hy] at hcz
                        simp only [Option.map_some] at hcz
                        clear hy hym
                        go_wp2_with (fail)
                        refine (holder_is w5 b m n _ _ _ HT5.out (by omega) y hwf.out q hh3.out).mono ?_
                        rintro e w6 ⟨rfl, rfl⟩
                        go_wp2_with (fail)
                        go_round
                        case rel => exact ⟨z + 1, by omega, by go_num⟩
                        case measure => simp [intOf]; omega
                      · go_wp2_with (fail)
                        go_roundw
                        case rel => exact ⟨q + 1, by omega, by go_num, HT5, HK5⟩
                        case measure => simp [intOf]; omega
                · go_wp2_with (fail)
                  go_roundw
                  case rel => exact ⟨j + 1, h3, W3, by omega, by go_num, ht, HV4, hk⟩
                  case measure => simp [intOf]; omega
          · have hk2' : (kind == 2) = false := by simpa using hk2
            clear hk1 hk2
            obtain ⟨w3, rfl⟩ : ∃ w3, w3 = w2 := ⟨_, rfl⟩
            have HT3 := Lib.hid (HT2.out.mono (Nat.le_succ j))
            have HK3 := HK2
            have HV3 := hv
            go_wp2_with (fail)
            obtain ⟨h3, W3, HT4, HV4⟩ : ∃ (h3 : Int → Option Int) (W3 : Nat → Int), Hid (Tab w3 b m n h3 W3 (j + 1)) ∧ Hid (Rng n h3) := ⟨_, _, HT3, HV3⟩
            obtain ⟨w4, rfl⟩ : ∃ w4 : World, w4 = w3 := ⟨_, rfl⟩
            clear HX HXX HT2 HK2 hv HT3 HV3
            go_loopw [14] (fun ci wr => ∃ q : Nat, (q : Int) ≤ n ∧ ci = .int .i64 q ∧ Hid (Tab wr b m n h3 W3 (j + 1)) ∧ Hid (Keeps NoB w wr)) (fun ci _ => n.toNat - (intOf ci).toNat)
            case atStart => exact ⟨0, by omega, rfl, HT4, HK3⟩
            case round =>
              obtain ⟨q, hq, rfl, ht, hk⟩ := hrel
              clear HT4 HK3
              by_cases hlt2 : (q : Int) < n
              · go_wp2_with (fail)
                refine (held_calls wr b m n h3 W3 (j + 1) ht.out q (by omega) hlt2 (by omega)).mono ?_
                rintro e w5 ⟨v, xs, rfl, hx, hown, hB⟩
                have k5 := Keeps.of_below' hB
                have HT5 := Lib.hid (ht.out.kept k5 (fun h => h) (fun h => h))
                have HK5 := Lib.hid (hk.out.trans k5)
                clear ht hk
                rcases own_cases hown with ⟨h0, a, c9, rfl⟩ | ⟨hpos, gg, cap9, rfl, _, hgg, _, _, hcell, _⟩
                · have HX := Lib.hid hx
                  clear hx k5 hB h0 hown
                  go_wp2_with (fail)
                  refine wp_loop_rounds 1 ?_
                  rw [rounds_succ]
                  go_wp2_with (fail)
                  go_roundw
                  case rel => exact ⟨q + 1, by omega, by go_num, HT5, HK5⟩
                  case measure => simp [intOf]; omega
                · have HX := Lib.hid hx
                  have HC := Lib.hid hcell
                  have hlen : (srt xs).length ≤ maxLen := by omega
                  unfold maxLen at hlen
                  clear hx k5 hB hown hcell
                  go_wp2_with (fail)
                  go_loop [16] (fun ki => ∃ z : Nat, z ≤ (srt xs).length ∧ ki = .int .i64 z) (fun ki => (srt xs).length - (intOf ki).toNat)
                  case atStart => exact ⟨0, by omega, rfl⟩
                  case round =>
                    obtain ⟨z, hz, rfl⟩ := hrel
                    by_cases hlt3 : z < (srt xs).length
                    · have hcz := HC.out z hlt3
                      obtain ⟨y, hy⟩ : ∃ y, y = (srt xs)[z] := ⟨_, rfl⟩
                      have hym : y ∈ xs := (srt_mem xs y).1 (by rw [hy]; exact List.getElem_mem _)
                      have hh3 := Lib.hid ((HX.out.2.1 y).1 hym)
                      have hwf := Lib.hid (HX.out.2.2 y hym)
                      rw [List.getElem?_map, List.getElem?_eq_getElem hlt3, ← hy] at hcz
                      simp only [Option.map_some] at hcz
                      clear hy hym
                      go_wp2_with (fail)
                      refine (holder_is w5 b m n _ _ _ HT5.out (by omega) y hwf.out q hh3.out).mono ?_
                      rintro e w6 ⟨rfl, rfl⟩
                      go_wp2_with (fail)
                      go_round
                      case rel => exact ⟨z + 1, by omega, by go_num⟩
                      case measure => simp [intOf]; omega
                    · go_wp2_with (fail)
                      go_roundw
                      case rel => exact ⟨q + 1, by omega, by go_num, HT5, HK5⟩
                      case measure => simp [intOf]; omega
              · go_wp2_with (fail)
                go_roundw
                case rel => exact ⟨j + 1, h3, W3, by omega, by go_num, ht, HV4, hk⟩
                case measure => simp [intOf]; omega
    · go_wp2_with (fail)
      refine (known_any _).mono ?_
      rintro e w2 ⟨rfl, k2⟩
      have HK2 := Lib.hid (hk.out.trans k2)
      clear k2
      go_wp2_with (fail)
      go_ret
      exact ⟨rfl, HK2.out⟩
end Go.Proofs.Ytajccnmeijgagaa
