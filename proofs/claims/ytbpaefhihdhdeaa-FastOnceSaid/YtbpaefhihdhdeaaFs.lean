/-
  The document's Same of stores: a contract.
-/
import Derived.Test.YtbpaefhihdhdeaaFk
namespace Go.Proofs.Ytbpaefhihdhdeaa
open Go.RowKit

set_option maxRecDepth 100000 in
set_option maxHeartbeats 1600000 in
theorem psame_pos (a b : List (Int × Int)) (ga gb ca cb : Nat) (w : World) (hn : a.length ≤ 1000000) (hp : 0 < a.length) (hl : a.length = b.length) (hA : EntsAt w ga 0 a) (hB : EntsAt w gb 0 b) :
    Calls Try.prog 14 #[.slice (some ⟨ga, 0, none⟩) a.length ca, .slice (some ⟨gb, 0, none⟩) a.length cb] w fun e W' => e = .returned (.bool (a == b)) ∧ Below w.heap.size w W' := by
  have hga := hA.lt hp
  have hgb := hB.lt (by omega)
  have HA := Lib.hid hA
  have HB := Lib.hid hB
  have HL := Lib.hid hl
  clear hA hB hl
  have FIN := Lib.hid (fun (r : Bool) (hr : (a == b) = r) => show Ending.returned (.bool r) = .returned (.bool (a == b)) by rw [hr])
  go_enter Try.func14, Try.ntmps14
  go_wp2_with (fail)
  go_loopw [5] (fun iv wr => ∃ k : Nat, k ≤ a.length ∧ iv = .int .i64 k ∧ Hid (∀ i, i < k → eK a i = eK b i ∧ eP a i = eP b i) ∧ Below w.heap.size w wr) (fun iv _ => a.length - (intOf iv).toNat)
  case atStart => exact ⟨0, Nat.zero_le _, rfl, Lib.hid fun j hj => by omega, Below.refl _ _⟩
  case round =>
    obtain ⟨k, hk, rfl, hno, hBw⟩ := hrel
    have HW := Lib.hid hBw
    by_cases hlt : k < a.length
    · obtain ⟨c1, c2⟩ := HA.out.below hBw hga k hlt
      obtain ⟨d1, d2⟩ := HB.out.below hBw hgb k (by have := HL.out; omega)
      clear hBw
      obtain ⟨ka, hka⟩ : ∃ x, eK a k = x := ⟨_, rfl⟩
      obtain ⟨pa, hpa⟩ : ∃ x, eP a k = x := ⟨_, rfl⟩
      obtain ⟨kb, hkb⟩ : ∃ x, eK b k = x := ⟨_, rfl⟩
      obtain ⟨pb, hpb⟩ : ∃ x, eP b k = x := ⟨_, rfl⟩
      rw [hka] at c1
      rw [hpa] at c2
      rw [hkb] at d1
      rw [hpb] at d2
      rw [Nat.zero_add] at c1 c2 d1 d2
      have HK := Lib.hid (And.intro hka (And.intro hpa (And.intro hkb hpb)))
      clear hka hpa hkb hpb
      have b5 : (k : Int) < (a.length : Int) := by omega
      have b9 : ((k : Int)).toNat = k := by omega
      cases hx : (ka == kb) <;> cases hy : (pa == pb)
      case true.true =>
        go_wp2_with (fail)
        go_quiet (fail)
        have HW2 := Lib.hid (below_drewN HW.out nq)
        go_wp2_with (fail)
        go_roundw
        case rel => exact ⟨k + 1, by omega, by go_num, Lib.hid (fun j hj => by
          rcases Nat.lt_succ_iff_lt_or_eq.1 hj with h | h
          · exact hno.out j h
          · obtain ⟨h1, h2, h3, h4⟩ := HK.out
            rw [h, h1, h2, h3, h4]; exact ⟨by simpa using hx, by simpa using hy⟩), HW2.out⟩
        case measure => simp [intOf]; omega
      all_goals
        have hf := Lib.hid (show (a == b) = false by
          rw [beq_eq_false_iff_ne]
          rintro rfl
          obtain ⟨h1, h2, h3, h4⟩ := HK.out
          rw [h1] at h3
          rw [h2] at h4
          subst h3 h4
          simp at hx hy)
        go_wp2_with (fail)
        go_quiet (fail)
        go_wp2_with (fail)
        go_ret
        exact ⟨FIN.out _ hf.out, below_drewN HW.out _⟩
    · have hf := Lib.hid (show (a == b) = true by
        rw [beq_iff_eq]
        exact ext_ents HL.out (fun i hi => hno.out i (by omega)))
      clear hBw
      go_wp2_with (fail)
      go_ret
      exact ⟨FIN.out _ hf.out, HW.out⟩

theorem psame_calls (a b : List (Int × Int)) (v1 v2 : Value) (b1 b2 : Nat) (w : World) (hn : a.length ≤ 1000000) (hA : w.ownsRow b1 36 2 v1 a.length (ecells a)) (hB : w.ownsRow b2 36 2 v2 b.length (ecells b)) :
    Calls Try.prog 14 #[v1, v2] w fun e W' => e = .returned (.bool (a == b)) ∧ Below w.heap.size w W' := by
  obtain ⟨a1, l1, c1, rfl⟩ := own_slice hA
  obtain ⟨a2, l2, c2, rfl⟩ := own_slice hB
  have e1 : l1 = a.length := own_len hA
  have e2 : l2 = b.length := own_len hB
  subst e1 e2
  have FIN := Lib.hid (fun (r : Bool) (hr : (a == b) = r) => show Ending.returned (.bool r) = .returned (.bool (a == b)) by rw [hr])
  by_cases hl : a.length = b.length
  · by_cases hp : 0 < a.length
    · obtain ⟨g, cap, e1, _, _, _, _, hE⟩ := own_ents hA rfl hp
      obtain ⟨g2, cap2, e2, _, _, _, _, hE2⟩ := own_ents hB rfl (by omega)
      rw [e1, e2, ← hl]
      exact psame_pos a b g g2 cap cap2 w hn hp hl hE hE2
    · have h0 : a = [] := List.eq_nil_of_length_eq_zero (by omega)
      have h1 : b = [] := List.eq_nil_of_length_eq_zero (by omega)
      subst h0 h1
      clear hA hB
      go_enter Try.func14, Try.ntmps14
      go_wp2_with (fail)
      refine wp_loop_rounds 1 ?_
      rw [rounds_succ]
      go_wp2_with (fail)
      go_ret
      exact ⟨FIN.out _ rfl, Below.refl _ _⟩
  · have hf := Lib.hid (show (a == b) = false by
      rw [beq_eq_false_iff_ne]
      rintro rfl
      exact hl rfl)
    have d2 : ((a.length : Int) == (b.length : Int)) = false := beq_eq_false_iff_ne.2 (by omega)
    have d : ((a.length : Int) != (b.length : Int)) = true := by rw [bne, d2]; rfl
    clear hA hB hl
    go_enter Try.func14, Try.ntmps14
    go_wp2_with (fail)
    go_ret
    exact ⟨FIN.out _ hf.out, Below.refl _ _⟩
end Go.Proofs.Ytbpaefhihdhdeaa
