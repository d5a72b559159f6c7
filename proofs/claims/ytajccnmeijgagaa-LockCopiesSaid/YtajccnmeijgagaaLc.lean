/-
  The law LockCopies.
-/
import Derived.Test.YtajccnmeijgagaaRn
import Derived.Test.YtajccnmeijgagaaLy
namespace Go.Proofs.Ytajccnmeijgagaa
open Go.RowKit Go.Maps
set_option linter.unusedVariables false

theorem sameB_refl {n : Nat} {h : Int → Option Int} {l : List (Int × Int)} (A : Agr n h l) (W : Nat → Int) : sameB l W l W = true := by
  unfold sameB
  have e1 : subL l l = true := by
    unfold subL
    rw [List.all_eq_true]
    intro x hx
    exact beq_iff_eq.2 ((lk_mem l A.nd x.1 x.2).1 hx)
  have e2 : eqW W W = true := by
    unfold eqW
    rw [List.all_eq_true]
    intro i _
    exact beq_iff_eq.2 rfl
  rw [e1, e2, decide_eq_true rfl]; rfl
/-- both pairs say the same of whether they are the same -/
theorem jt_same {n : Nat} {w : World} {b1 r1 K1 b2 r2 K2 : Nat} {S1 S2 : Nat → Prop} (J1 : JT n w b1 r1 K1 S1) (J2 : JT n w b2 r2 K2 S2) (hn : 1 ≤ n) (h64 : n ≤ 64) (hK1 : K1 ≤ 1000) (hK2 : K2 ≤ 1000) :
    ∃ X : Bool, (∀ w', Keeps NoB w w' → Calls Try.prog 20 #[.pointer (some ⟨r1, 0, none⟩), .pointer (some ⟨r2, 0, none⟩)] w' fun e w'' => e = .returned (.bool X) ∧ Below w'.heap.size w' w'') ∧
      (∀ w', Keeps NoB w w' → Calls Try.prog 19 #[.pointer (some ⟨b1, 0, none⟩), .pointer (some ⟨b2, 0, none⟩)] w' fun e w'' => e = .returned (.bool X) ∧ Below w'.heap.size w' w'') ∧
      (∀ w', Keeps NoB w w' → Calls Try.prog 19 #[.pointer (some ⟨b2, 0, none⟩), .pointer (some ⟨b1, 0, none⟩)] w' fun e w'' => e = .returned (.bool X) ∧ Below w'.heap.size w' w'') := by
  obtain ⟨m1, h1, W1, k1, l1, vL1, vW1, t1, q1, a1, x1, y1, z1, _⟩ := J1
  obtain ⟨m2, h2, W2, k2, l2, vL2, vW2, t2, q2, a2, x2, y2, z2, _⟩ := J2
  refine ⟨sameB l1 W1 l2 W2, fun w' hk => rsame_v w' r1 r2 n l1 l2 W1 W2 _ _ _ _ (q1.keptN hk) (q2.keptN hk) h64 h1 a1 z1 z2 (by omega) (by omega), fun w' hk => tsame_b w' b1 b2 m1 m2 n h1 h2 W1 W2 k1 k2 (t1.keptN hk) (t2.keptN hk) hn l1 l2 a1 a2, fun w' hk => ?_⟩
  rw [sameB_sym a1.nd a2.nd]
  exact tsame_b w' b2 b1 m2 m1 n h2 h1 W2 W1 k2 k1 (t2.keptN hk) (t1.keptN hk) hn l2 l1 a2 a1
/-- both copies -/
theorem jt_copy {n : Nat} {w : World} {b r K : Nat} {S : Nat → Prop} (J : JT n w b r K S) (hn : 1 ≤ n) (h64 : n ≤ 64) (hK : K ≤ 1000) :
    Calls Try.prog 17 #[.pointer (some ⟨b, 0, none⟩)] w fun e w1 => ∃ b2, e = .returned (.pointer (some ⟨b2, 0, none⟩)) ∧ Below w.heap.size w w1 ∧
      Calls Try.prog 18 #[.pointer (some ⟨r, 0, none⟩)] w1 fun e w2 => ∃ r2 S2, e = .returned (.pointer (some ⟨r2, 0, none⟩)) ∧ Below w1.heap.size w1 w2 ∧ JT n w2 b2 r2 K S2 ∧ (∀ i, S2 i → w.heap.size ≤ i) ∧
        Calls Try.prog 19 #[.pointer (some ⟨b2, 0, none⟩), .pointer (some ⟨b, 0, none⟩)] w2 fun e w3 => e = .returned (.bool true) ∧ Below w2.heap.size w2 w3 := by
  obtain ⟨m, h, W, k, l, vL, vW, t, q, a, x1, y1, z1, _⟩ := J
  refine (copy_v w b m n h W k t (by omega)).mono ?_
  rintro e w1 ⟨rfl, t1, hB1⟩
  refine ⟨_, rfl, hB1, ?_⟩
  refine (rcopy_v w1 r n l W vL vW (q.keptN (Keeps.of_below' hB1)) h64 (by omega)).mono ?_
  rintro e w2 ⟨r2, x, y, rfl, q2, hr2, hB2⟩
  have hk2 := Keeps.of_below' hB2
  have T2 := t1.keptN hk2
  refine ⟨r2, fun i => Two (w.heap.size + 1) w.heap.size i ∨ RS r2 x y i, rfl, hB2, ⟨_, h, W, k, l, x, y, T2, q2, a, x1, y1, z1, fun _ h => h⟩, ?_, ?_⟩
  · rintro i ((e | e) | e)
    · rw [e]; omega
    · rw [e]; exact Nat.le_refl _
    · exact Nat.le_trans hB1.size (hr2 i e)
  · rw [← sameB_refl a W]
    exact tsame_b w2 _ b _ m n h h W W k k T2 ((t.keptN (Keeps.of_below' hB1)).keptN hk2) hn l l a a
set_option maxRecDepth 100000 in
theorem copies_no (n : Int) (a1 a2 a3 : Option Addr) (n1 n2 n3 c1 c2 c3 : Nat) (w : World) (h : 60 < n1 ∨ 20 < n2 ∨ 20 < n3 ∨ n < 1 ∨ 8 < n) (hl1 : n1 ≤ maxLen) (hl2 : n2 ≤ maxLen) (hl3 : n3 ≤ maxLen) :
    Calls Try.prog 6 #[.int .i64 n, .slice a1 n1 c1, .slice a2 n2 c2, .slice a3 n3 c3] w fun e w' => e = .returned (.bool true) ∧ Keeps NoB w w' := by
  unfold maxLen at hl1 hl2 hl3
  by_cases d1 : (60 : Int) < (n1 : Int)
  · go_enter Try.func6, Try.ntmps6
    go_wp2_with (fail)
    refine (known_any _).mono ?_
    rintro e w' ⟨rfl, hk⟩
    have HK := Lib.hid hk
    clear hk
    go_wp2_with (fail)
    go_ret
    exact ⟨rfl, HK.out⟩
  · by_cases d2 : (20 : Int) < (n2 : Int)
    · go_enter Try.func6, Try.ntmps6
      go_wp2_with (fail)
      refine (known_any _).mono ?_
      rintro e w' ⟨rfl, hk⟩
      have HK := Lib.hid hk
      clear hk
      go_wp2_with (fail)
      go_ret
      exact ⟨rfl, HK.out⟩
    · by_cases d3 : (20 : Int) < (n3 : Int)
      · go_enter Try.func6, Try.ntmps6
        go_wp2_with (fail)
        refine (known_any _).mono ?_
        rintro e w' ⟨rfl, hk⟩
        have HK := Lib.hid hk
        clear hk
        go_wp2_with (fail)
        go_ret
        exact ⟨rfl, HK.out⟩
      · by_cases d4 : n < 1
        · go_enter Try.func6, Try.ntmps6
          go_wp2_with (fail)
          refine (known_any _).mono ?_
          rintro e w' ⟨rfl, hk⟩
          have HK := Lib.hid hk
          clear hk
          go_wp2_with (fail)
          go_ret
          exact ⟨rfl, HK.out⟩
        · have d5 : 8 < n := by omega
          clear h
          go_enter Try.func6, Try.ntmps6
          go_wp2_with (fail)
          refine (known_any _).mono ?_
          rintro e w' ⟨rfl, hk⟩
          have HK := Lib.hid hk
          clear hk
          go_wp2_with (fail)
          go_ret
          exact ⟨rfl, HK.out⟩
/-- the loops -/
def LcA (n : Nat) (w : World) (r len : Nat) (tv iv : Value) (wr : World) : Prop :=
  ∃ (j b : Nat) (S : Nat → Prop), j ≤ len ∧ tv = .pointer (some ⟨b, 0, none⟩) ∧ iv = .int .i64 (j : Int) ∧ JT n wr b r j S ∧ (∀ i, S i → w.heap.size ≤ i) ∧ Keeps NoB w wr
/-- one pair goes on, the other stands still -/
def LcB (n : Nat) (w : World) (r1 b2 r2 H K2 len : Nat) (S2 : Nat → Prop) (tv iv : Value) (wr : World) : Prop :=
  ∃ (j b : Nat) (S : Nat → Prop), j ≤ len ∧ tv = .pointer (some ⟨b, 0, none⟩) ∧ iv = .int .i64 (j : Int) ∧ JT n wr b r1 (80 + j) S ∧ JT n wr b2 r2 K2 S2 ∧ (∀ i, S i → ¬ S2 i) ∧ (∀ i, S i → w.heap.size ≤ i) ∧ Keeps NoB w wr ∧ H ≤ wr.heap.size
theorem LcB.step {n : Nat} {w wr w3 : World} {r1 b2 r2 H K2 len j b3 : Nat} {S S2 S3 : Nat → Prop} (hj : j < len) (h2 : JT n wr b2 r2 K2 S2) (hd : ∀ i, S i → ¬ S2 i) (hw : ∀ i, S i → w.heap.size ≤ i) (hk : Keeps NoB w wr) (hH : H ≤ wr.heap.size) (hS2 : ∀ i, S2 i → i < H)
    (hJ3 : JT n w3 b3 r1 (80 + j + 1) S3) (hk3 : Keeps S wr w3) (hS3 : ∀ i, S3 i → S i ∨ wr.heap.size ≤ i) : LcB n w r1 b2 r2 H K2 len S2 (.pointer (some ⟨b3, 0, none⟩)) (.int .i64 ((j + 1 : Nat) : Int)) w3 := by
  refine ⟨j + 1, b3, S3, hj, rfl, rfl, hJ3, h2.kept hk3 (fun i e f => hd i f e), fun i e f => ?_, fun i e => ?_, hk.trans' hk3 (fun i hi e => absurd (hw i e) (by omega)), Nat.le_trans hH hk3.size⟩
  · rcases hS3 i e with x | x
    · exact hd i x f
    · have := hS2 i f; omega
  · rcases hS3 i e with x | x
    · exact hw i x
    · exact Nat.le_trans hk.size x
set_option maxRecDepth 100000 in
set_option maxHeartbeats 4000000 in
theorem copies_in (n : Nat) (l1 l2 l3 : List (Int × Int × Int)) (a1 a2 a3 : Option Addr) (cap1 cap2 cap3 g1 g2 g3 o1 o2 o3 : Nat) (w : World) (h1 : 1 ≤ n) (h8 : n ≤ 8) (hl1 : l1.length ≤ 60) (hl2 : l2.length ≤ 20) (hl3 : l3.length ≤ 20)
    (ha1 : 0 < l1.length → a1 = some ⟨g1, o1, none⟩ ∧ g1 < w.heap.size ∧ ActsAt w g1 o1 l1) (ha2 : 0 < l2.length → a2 = some ⟨g2, o2, none⟩ ∧ g2 < w.heap.size ∧ ActsAt w g2 o2 l2) (ha3 : 0 < l3.length → a3 = some ⟨g3, o3, none⟩ ∧ g3 < w.heap.size ∧ ActsAt w g3 o3 l3) :
    Calls Try.prog 6 #[.int .i64 n, .slice a1 l1.length cap1, .slice a2 l2.length cap2, .slice a3 l3.length cap3] w fun e w' => e = .returned (.bool true) ∧ Keeps NoB w w' := by
  have d1 : ¬ (60 : Int) < (l1.length : Int) := by omega
  have d2 : ¬ (20 : Int) < (l2.length : Int) := by omega
  have d3 : ¬ (20 : Int) < (l3.length : Int) := by omega
  have d4 : ¬ (n : Int) < 1 := by omega
  have d5 : ¬ (8 : Int) < (n : Int) := by omega
  have h64 : n ≤ 64 := by omega
  have HN := Lib.hid (new_tab n (by omega) (by omega) w)
  have HRn := Lib.hid (fun w => rnew_yes n h1 h64 w)
  have HA1 := Lib.hid ha1
  have HA2 := Lib.hid ha2
  have HA3 := Lib.hid ha3
  clear ha1 ha2 ha3
  go_enter Try.func6, Try.ntmps6
  go_wp2_with (fail)
  refine HN.out.mono ?_
  rintro e w1 ⟨rfl, t1, k1, s1⟩
  have HT := Lib.hid t1
  have HK := Lib.hid k1
  have HS1 := Lib.hid s1
  obtain ⟨b, hb⟩ : ∃ b, b = w.heap.size + 1 := ⟨_, rfl⟩
  have HBb := Lib.hid hb
  rw [← hb]
  clear t1 k1 s1 HN hb
  go_wp2_with (fail)
  refine (HRn.out _).mono ?_
  rintro e w2 ⟨rfl, q2, k2⟩
  obtain ⟨r, hr⟩ : ∃ r, r = w1.heap.size + 1 := ⟨_, rfl⟩
  rw [← hr] at q2 ⊢
  have HJ0 := Lib.hid (show LcA n w r l1.length (.pointer (some ⟨b, 0, none⟩)) (.int .i64 0) w2 from by
    refine ⟨0, b, fun i => w.heap.size ≤ i, Nat.zero_le _, rfl, rfl, ⟨w.heap.size, _, _, 0, [], _, _, ?_, q2, agr_nil n, Nat.le_refl _, Nat.le_refl _, fun _ _ => rfl, ?_⟩, fun i h => h, HK.out.trans k2⟩
    · rw [HBb.out]; exact HT.out.keptN k2
    · have hs := HS1.out
      have hbb := HBb.out
      intro i e
      show w.heap.size ≤ i
      rcases e with (e | e) | e | e | e
      · have e2 : i = b := e
        omega
      · have e2 : i = w.heap.size := e
        omega
      · have e2 : i = r := e
        omega
      · cases e
      · have e2 : w1.heap.size = i := Option.some.inj e
        omega)
  clear q2 k2 HT HK HS1 HBb hr HRn
  go_wp2_with (fail)
  go_loopw [9, 13] (fun tv iv wr => LcA n w r l1.length tv iv wr) (fun _ iv _ => l1.length - (intOf iv).toNat)
  case atStart => exact HJ0.out
  case round =>
    obtain ⟨j, b1, S, hj, rfl, rfl, hJ, hS, hk⟩ := hrel
    clear HJ0
    have HJ := Lib.hid hJ
    have HS := Lib.hid hS
    have HK := Lib.hid hk
    clear hJ hS hk
    by_cases hlt : j < l1.length
    · have b9 : (j : Int) < (l1.length : Int) := by omega
      obtain ⟨rfl, hg, hact⟩ := HA1.out (by omega)
      obtain ⟨c0, c1, c2, hid⟩ := hact.kept HK.out hg j hlt
      generalize (l1.getD j (0, 0, 0)).1 = kind at *
      generalize (l1.getD j (0, 0, 0)).2.1 = c at *
      generalize (l1.getD j (0, 0, 0)).2.2 = ad at *
      have HD := Lib.hid (do_v n wr b1 r j S HJ.out h1 h64 (by omega) kind c ad hid)
      have HLT := Lib.hid hlt
      clear hact hid
      go_wp2_with (fail)
      refine HD.out.mono ?_
      rintro e w3 ⟨b3, rfl, S3, hJ3, hk3, hS3⟩
      have HJ3 := Lib.hid hJ3
      have HS3 := Lib.hid (show ∀ i, S3 i → w.heap.size ≤ i from fun i e => (hS3 i e).elim (fun x => HS.out i x) (fun x => Nat.le_trans HK.out.size x))
      have HK3 := Lib.hid (HK.out.trans' hk3 (fun i hi e => absurd (HS.out i e) (by omega)))
      clear hJ3 hk3 hS3 c0 c1 c2
      go_wp2_with (fail)
      go_roundw
      case rel => exact ⟨j + 1, b3, S3, HLT.out, rfl, by go_num, HJ3.out, HS3.out, HK3.out⟩
      case measure => simp [intOf]; have := HLT.out; omega
    · have b2 : ¬ (j : Int) < (l1.length : Int) := by omega
      obtain ⟨Sa, hJa, hSa, hlt1⟩ := HJ.out.tight
      have HJa := Lib.hid (hJa.mono (K' := 80) (by omega))
      have HSa := Lib.hid (show ∀ i, Sa i → w.heap.size ≤ i from fun i e => HS.out i (hSa i e))
      have HLa := Lib.hid hlt1
      have HC := Lib.hid (jt_copy HJa.out h1 h64 (by omega))
      clear hJa hSa hlt1 HJ HS
      go_wp2_with (fail)
      refine HC.out.mono ?_
      rintro e w3 ⟨b2', rfl, hB3, hR⟩
      have HR := Lib.hid hR
      have HB3 := Lib.hid hB3
      clear hR hB3 HC
      go_wp2_with (fail)
      refine HR.out.mono ?_
      rintro e w4 ⟨r2, Sb0, rfl, hB4, hJb, hSb, hSm⟩
      obtain ⟨Sb, hJb2, hsub, hltb⟩ := hJb.tight
      have HSm := Lib.hid hSm
      have HJb := Lib.hid hJb2
      have HDj := Lib.hid (show ∀ i, Sa i → ¬ Sb i from fun i e f => by have := HLa.out i e; have := hSb i (hsub i f); omega)
      have HSb := Lib.hid (show ∀ i, Sb i → w.heap.size ≤ i from fun i e => Nat.le_trans HK.out.size (hSb i (hsub i e)))
      have HJa4 := Lib.hid ((HJa.out.keptN (Keeps.of_below' HB3.out)).keptN (Keeps.of_below' hB4))
      have HK4 := Lib.hid ((HK.out.trans (Keeps.of_below' HB3.out)).trans (Keeps.of_below' hB4))
      have HLb := Lib.hid hltb
      clear hSm hB4 hJb hSb hJb2 hsub hltb HR HJa HK HLa HB3
      go_wp2_with (fail)
      refine HSm.out.mono ?_
      rintro e w5 ⟨rfl, hB5⟩
      have HJ5 := Lib.hid (show LcB n w r b2' r2 w4.heap.size 80 l2.length Sb (.pointer (some ⟨b1, 0, none⟩)) (.int .i64 0) w5 from
        ⟨0, b1, Sa, Nat.zero_le _, rfl, rfl, HJa4.out.keptN (Keeps.of_below' hB5), HJb.out.keptN (Keeps.of_below' hB5), HDj.out, HSa.out, HK4.out.trans (Keeps.of_below' hB5), hB5.size⟩)
      clear hB5 HSm HJa4 HJb HK4 HDj HSa
      go_wp2_with (fail)
      go_loopw [9, 18] (fun tv iv wr => LcB n w r b2' r2 w4.heap.size 80 l2.length Sb tv iv wr) (fun _ iv _ => l2.length - (intOf iv).toNat)
      case atStart => exact HJ5.out
      case round =>
        obtain ⟨j, bt, S, hj, rfl, rfl, hJ, hJ2, hD, hS, hk, hH⟩ := hrel
        clear HJ5
        have HJ := Lib.hid hJ
        have HJ2 := Lib.hid hJ2
        have HDj := Lib.hid hD
        have HS := Lib.hid hS
        have HK := Lib.hid hk
        have HH := Lib.hid hH
        clear hJ hJ2 hD hS hk hH
        by_cases hlt : j < l2.length
        · have b9 : (j : Int) < (l2.length : Int) := by omega
          obtain ⟨rfl, hg, hact⟩ := HA2.out (by omega)
          obtain ⟨c0, c1, c2, hid⟩ := hact.kept HK.out hg j hlt
          generalize (l2.getD j (0, 0, 0)).1 = kind at *
          generalize (l2.getD j (0, 0, 0)).2.1 = c at *
          generalize (l2.getD j (0, 0, 0)).2.2 = ad at *
          have HD := Lib.hid (do_v n wr bt r (80 + j) S HJ.out h1 h64 (by omega) kind c ad hid)
          have HLT := Lib.hid hlt
          clear hact hid
          go_wp2_with (fail)
          refine HD.out.mono ?_
          rintro e w6 ⟨b3, rfl, S3, hJ3, hk3, hS3⟩
          have HX := Lib.hid (LcB.step HLT.out HJ2.out HDj.out HS.out HK.out HH.out HLb.out hJ3 hk3 hS3)
          clear hJ3 hk3 hS3 c0 c1 c2
          go_wp2_with (fail)
          go_roundw
          case rel => exact HX.out
          case measure => simp [intOf]; have := HLT.out; omega
        · have b3 : ¬ (j : Int) < (l2.length : Int) := by omega
          have HSm := Lib.hid (same_v n wr b2' r2 80 Sb HJ2.out h1 h64 (by omega))
          obtain ⟨Sa2, hJa, hSa, hlt1⟩ := HJ.out.tight
          have HJa := Lib.hid (hJa.mono (K' := 100) (by omega))
          have HDa := Lib.hid (show ∀ i, Sb i → ¬ Sa2 i from fun i e f => HDj.out i (hSa i f) e)
          have HLa := Lib.hid hlt1
          clear hJa hSa hlt1 HJ HS HDj
          go_wp2_with (fail)
          refine HSm.out.mono ?_
          rintro e w6 ⟨rfl, hB6⟩
          have HJ6 := Lib.hid (show LcB n w r2 bt r wr.heap.size 100 l3.length Sa2 (.pointer (some ⟨b2', 0, none⟩)) (.int .i64 0) w6 from
            ⟨0, b2', Sb, Nat.zero_le _, rfl, rfl, HJ2.out.keptN (Keeps.of_below' hB6), HJa.out.keptN (Keeps.of_below' hB6), HDa.out, HSb.out, HK.out.trans (Keeps.of_below' hB6), hB6.size⟩)
          obtain ⟨H0, hH0⟩ : ∃ x, wr.heap.size = x := ⟨_, rfl⟩
          rw [hH0] at HJ6 HLa
          clear hB6 HSm HJ2 HJa HDa HSb HK HH HLb hH0
          go_wp2_with (fail)
          go_loopw [16, 21] (fun tv iv wz => LcB n w r2 bt r H0 100 l3.length Sa2 tv iv wz) (fun _ iv _ => l3.length - (intOf iv).toNat)
          case atStart => exact HJ6.out
          case round =>
            obtain ⟨j, bu, S, hj, rfl, rfl, hJ, hJ2, hD, hS, hk, hH⟩ := hrel
            clear HJ6
            have HJ := Lib.hid hJ
            have HJ2 := Lib.hid hJ2
            have HDj := Lib.hid hD
            have HS := Lib.hid hS
            have HK := Lib.hid hk
            have HH := Lib.hid hH
            clear hJ hJ2 hD hS hk hH
            by_cases hlt : j < l3.length
            · have b9 : (j : Int) < (l3.length : Int) := by omega
              obtain ⟨rfl, hg, hact⟩ := HA3.out (by omega)
              obtain ⟨c0, c1, c2, hid⟩ := hact.kept HK.out hg j hlt
              generalize (l3.getD j (0, 0, 0)).1 = kind at *
              generalize (l3.getD j (0, 0, 0)).2.1 = c at *
              generalize (l3.getD j (0, 0, 0)).2.2 = ad at *
              have HD := Lib.hid (do_v n wr bu r2 (80 + j) S HJ.out h1 h64 (by omega) kind c ad hid)
              have HLT := Lib.hid hlt
              clear hact hid
              go_wp2_with (fail)
              refine HD.out.mono ?_
              rintro e w7 ⟨b3, rfl, S3, hJ3, hk3, hS3⟩
              have HX := Lib.hid (LcB.step HLT.out HJ2.out HDj.out HS.out HK.out HH.out HLa.out hJ3 hk3 hS3)
              clear hJ3 hk3 hS3 c0 c1 c2
              go_wp2_with (fail)
              go_roundw
              case rel => exact HX.out
              case measure => simp [intOf]; have := HLT.out; omega
            · have b9 : ¬ (j : Int) < (l3.length : Int) := by omega
              obtain ⟨X, hX1, hX2, hX3⟩ := jt_same HJ2.out HJ.out h1 h64 (by omega) (by omega)
              have HX1 := Lib.hid hX1
              have HX2 := Lib.hid hX2
              have HX3 := Lib.hid hX3
              have bx : (X == X) = true := beq_self_eq_true _
              clear hX1 hX2 hX3
              go_wp2_with (fail)
              refine (HX1.out _ (Keeps.refl _ _)).mono ?_
              rintro e w7 ⟨rfl, hB7⟩
              have HK7 := Lib.hid (Keeps.of_below' hB7)
              have HSm := Lib.hid (same_v n w7 bt r 100 Sa2 (HJ2.out.keptN HK7.out) h1 h64 (by omega))
              clear hB7
              go_wp2_with (fail)
              refine HSm.out.mono ?_
              rintro e w8 ⟨rfl, hB8⟩
              have HK8 := Lib.hid (HK7.out.trans (Keeps.of_below' hB8))
              clear hB8
              go_wp2_with (fail)
              refine (HX2.out _ HK8.out).mono ?_
              rintro e w9 ⟨rfl, hB9⟩
              have HK9 := Lib.hid (HK8.out.trans (Keeps.of_below' hB9))
              clear hB9
              go_wp2_with (fail)
              refine (HX3.out _ HK9.out).mono ?_
              rintro e w10 ⟨rfl, hB10⟩
              have HK10 := Lib.hid (HK9.out.trans (Keeps.of_below' hB10))
              clear hB10
              go_wp2_with (fail)
              refine (known_any _).mono ?_
              rintro e w11 ⟨rfl, hk11⟩
              have HKf := Lib.hid ((HK.out.trans HK10.out).trans hk11)
              clear hk11
              go_wp2_with (fail)
              go_ret
              exact ⟨rfl, HKf.out⟩
end Go.Proofs.Ytajccnmeijgagaa
