/-
  The law LockPlays.
-/
import Derived.Test.YtajccnmeijgagaaSm
import Derived.Test.YtajccnmeijgagaaLo
namespace Go.Proofs.Ytajccnmeijgagaa
open Go.RowKit Go.Maps
set_option linter.unusedVariables false

theorem JT.c1 {n : Nat} {w : World} {b r K : Nat} {S : Nat → Prop} (J : JT n w b r K S) : ∃ A cw, w.cell? ⟨r, 1, none⟩ = some (.slice A n cw) := by
  obtain ⟨m, h, W0, k, l, vL, vW, t, q, _⟩ := J
  obtain ⟨a, c, rfl⟩ := own_form q.wts
  exact ⟨a, c, q.c1⟩
set_option maxRecDepth 100000 in
theorem plays_no (n : Int) (a : Option Addr) (len cap : Nat) (w : World) (h : 100 < len ∨ n < 1 ∨ 64 < n) (hlen : len ≤ maxLen) :
    Calls Try.prog 5 #[.int .i64 n, .slice a len cap] w fun e w' => e = .returned (.bool true) ∧ Keeps NoB w w' := by
  unfold maxLen at hlen
  by_cases h1 : (100 : Int) < (len : Int)
  · go_enter Try.func5, Try.ntmps5
    go_wp2_with (fail)
    refine (known_any _).mono ?_
    rintro e w' ⟨rfl, hk⟩
    have HK := Lib.hid hk
    clear hk
    go_wp2_with (fail)
    go_ret
    exact ⟨rfl, HK.out⟩
  · have h2 : n < 1 ∨ 64 < n := by omega
    have HN := Lib.hid (one_new n h2 w)
    have HR := Lib.hid (fun w => rnew_no n h2 w)
    clear h h2
    go_enter Try.func5, Try.ntmps5
    go_wp2_with (fail)
    refine HN.out.mono ?_
    rintro e w1 ⟨rfl, hk1⟩
    have HK1 := Lib.hid hk1
    clear hk1
    go_wp2_with (fail)
    refine (HR.out _).mono ?_
    rintro e w2 ⟨rfl, rfl⟩
    go_wp2_with (fail)
    refine (known_any _).mono ?_
    rintro e w' ⟨rfl, hk⟩
    have HK := Lib.hid (HK1.out.trans hk)
    clear hk
    go_wp2_with (fail)
    go_ret
    exact ⟨rfl, HK.out⟩
/-- the loop -/
def LyRel (n : Nat) (w : World) (r len : Nat) (tv iv : Value) (wr : World) : Prop :=
  ∃ (j b : Nat) (S : Nat → Prop), j ≤ len ∧ tv = .pointer (some ⟨b, 0, none⟩) ∧ iv = .int .i64 (j : Int) ∧ JT n wr b r j S ∧ (∀ i, S i → w.heap.size ≤ i) ∧ Keeps NoB w wr
set_option maxRecDepth 100000 in
set_option maxHeartbeats 2000000 in
theorem plays_in (n : Nat) (l : List (Int × Int × Int)) (a : Option Addr) (cap g o : Nat) (w : World) (h1 : 1 ≤ n) (h64 : n ≤ 64) (hl : l.length ≤ 100) (ha : 0 < l.length → a = some ⟨g, o, none⟩ ∧ g < w.heap.size ∧ ActsAt w g o l) :
    Calls Try.prog 5 #[.int .i64 n, .slice a l.length cap] w fun e w' => e = .returned (.bool true) ∧ Keeps NoB w w' := by
  have b2 : ¬ (100 : Int) < (l.length : Int) := by omega
  have HN := Lib.hid (new_tab n (by omega) (by omega) w)
  have HRn := Lib.hid (fun w => rnew_yes n h1 h64 w)
  have HA := Lib.hid ha
  clear ha
  go_enter Try.func5, Try.ntmps5
  go_wp2_with (fail)
  refine HN.out.mono ?_
  rintro e w1 ⟨rfl, t1, k1, s1⟩
  have HT := Lib.hid t1
  have HK := Lib.hid k1
  have HS1 := Lib.hid s1
  obtain ⟨b, hb⟩ : ∃ b, b = w.heap.size + 1 := ⟨_, rfl⟩
  have HBb := Lib.hid hb
  rw [← hb]
  clear t1 k1 s1 HN hb
  go_wp2_with (fail)
  refine (HRn.out _).mono ?_
  rintro e w2 ⟨rfl, q2, k2⟩
  obtain ⟨r, hr⟩ : ∃ r, r = w1.heap.size + 1 := ⟨_, rfl⟩
  rw [← hr] at q2 ⊢
  have HJ0 := Lib.hid (show LyRel n w r l.length (.pointer (some ⟨b, 0, none⟩)) (.int .i64 0) w2 from by
    refine ⟨0, b, fun i => w.heap.size ≤ i, Nat.zero_le _, rfl, rfl, ⟨w.heap.size, _, _, 0, [], _, _, ?_, q2, agr_nil n, Nat.le_refl _, Nat.le_refl _, fun _ _ => rfl, ?_⟩, fun i h => h, HK.out.trans k2⟩
    · rw [HBb.out]; exact HT.out.keptN k2
    · have hs := HS1.out
      have hbb := HBb.out
      intro i e
      show w.heap.size ≤ i
      rcases e with (e | e) | e | e | e
      · have e2 : i = b := e
        omega
      · have e2 : i = w.heap.size := e
        omega
      · have e2 : i = r := e
        omega
      · cases e
      · have e2 : w1.heap.size = i := Option.some.inj e
        omega)
  clear q2 k2 HT HK HS1 HBb hr HRn
  go_wp2_with (fail)
  go_loopw [5, 9] (fun tv iv wr => LyRel n w r l.length tv iv wr) (fun _ iv _ => l.length - (intOf iv).toNat)
  case atStart => exact HJ0.out
  case round =>
    obtain ⟨j, b', S, hj, rfl, rfl, hJ, hS, hk⟩ := hrel
    clear HJ0
    have HJ := Lib.hid hJ
    have HS := Lib.hid hS
    have HK := Lib.hid hk
    clear hJ hS hk
    by_cases hlt : j < l.length
    · obtain ⟨rfl, hg, hact⟩ := HA.out (by omega)
      obtain ⟨c0, c1, c2, hid⟩ := hact.kept HK.out hg j hlt
      generalize (l.getD j (0, 0, 0)).1 = kind at *
      generalize (l.getD j (0, 0, 0)).2.1 = c at *
      generalize (l.getD j (0, 0, 0)).2.2 = ad at *
      have HD := Lib.hid (do_v n wr b' r j S HJ.out h1 h64 (by omega) kind c ad hid)
      have b1 : (j : Int) < (l.length : Int) := by omega
      have HLT := Lib.hid hlt
      clear hact hid
      go_wp2_with (fail)
      refine HD.out.mono ?_
      rintro e w3 ⟨b3, rfl, S3, hJ3, hk3, hS3⟩
      have HJ3 := Lib.hid hJ3
      have HS3 := Lib.hid (show ∀ i, S3 i → w.heap.size ≤ i from fun i e => (hS3 i e).elim (fun x => HS.out i x) (fun x => Nat.le_trans HK.out.size x))
      have HK3 := Lib.hid (HK.out.trans' hk3 (fun i hi e => absurd (HS.out i e) (by omega)))
      obtain ⟨A3, c3, d3⟩ := hJ3.c1
      clear hJ3 hk3 hS3 c0 c1 c2
      by_cases h8 : n ≤ 8
      · have b8 : (n : Int) ≤ 8 := by omega
        have HSm := Lib.hid (same_v n w3 b3 r (j + 1) S3 HJ3.out h1 h64 (by omega))
        go_wp2_with (fail)
        refine HSm.out.mono ?_
        rintro e w4 ⟨rfl, hB⟩
        have HJ4 := Lib.hid (HJ3.out.keptN (Keeps.of_below' hB))
        have HK4 := Lib.hid (HK3.out.trans (Keeps.of_below' hB))
        clear hB
        go_wp2_with (fail)
        go_roundw
        case rel => exact ⟨j + 1, b3, S3, HLT.out, rfl, by go_num, HJ4.out, HS3.out, HK4.out⟩
        case measure => simp [intOf]; have := HLT.out; omega
      · have b8 : ¬ (n : Int) ≤ 8 := by omega
        go_wp2_with (fail)
        go_roundw
        case rel => exact ⟨j + 1, b3, S3, HLT.out, rfl, by go_num, HJ3.out, HS3.out, HK3.out⟩
        case measure => simp [intOf]; have := HLT.out; omega
    · have b1 : ¬ (j : Int) < (l.length : Int) := by omega
      have HSm := Lib.hid (same_v n wr b' r j S HJ.out h1 h64 (by omega))
      go_wp2_with (fail)
      refine HSm.out.mono ?_
      rintro e w4 ⟨rfl, hB⟩
      have HK4 := Lib.hid (HK.out.trans (Keeps.of_below' hB))
      clear hB
      go_wp2_with (fail)
      refine (known_any _).mono ?_
      rintro e w5 ⟨rfl, hk5⟩
      have HK5 := Lib.hid (HK4.out.trans hk5)
      clear hk5
      go_wp2_with (fail)
      go_ret
      exact ⟨rfl, HK5.out⟩
end Go.Proofs.Ytajccnmeijgagaa
