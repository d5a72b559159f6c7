/-
  word.Get, the document's Same; known(): true.
-/
import Derived.Test.YtnmpgjodndfoiaaDoorGe
import Derived.Test.YtnmpgjodndfoiaaDoorUn
namespace Go.Proofs.YtnmpgjodndfoiaaDoor
open Go.RowKit

theorem nil_b (w : World) : (binOp .eql 26 (.slice none 0 0) (.slice none 0 0)).run Tryd.prog w = .ok (.bool true) w := by kernel_rfl
theorem some_b (g o n c : Nat) (w : World) : (binOp .eql 26 (.slice (some ⟨g, o, none⟩) n c) (.slice none 0 0)).run Tryd.prog w = .ok (.bool false) w := by kernel_rfl

set_option maxRecDepth 100000 in
theorem get_no (p : Option Addr) (n cap : Nat) (at_ : Int) (hn : n ≤ 1000000) (ha : at_ ≤ 9223372036854775807) (h : ¬ fits n at_) (w : World) :
    Calls Tryd.prog 12 #[.slice p n cap, .int .i64 at_] w fun e w' => e = .returned (.tuple #[.int .u64 0, .int .i64 3]) ∧ w = w' := by
  have HP := Lib.hid (fun w => piece_no p n cap at_ hn ha h w)
  clear h ha
  have hq1 := nil_b
  have hq2 := some_b
  go_enter Tryd.func12, Tryd.ntmps12
  go_wp2_with (go_at_call 31; refine (HP.out _).mono ?_; rintro e w1 ⟨rfl, rfl⟩)
  go_ret2
  exact ⟨rfl, rfl⟩
set_option maxRecDepth 100000 in
theorem get_yes (l : List UInt8) (g o cap a : Nat) (hn : l.length ≤ 1000000) (hc : l.length ≤ cap) (h : a + 8 ≤ l.length) (w : World) (hb : BytesAt w g o l) :
    Calls Tryd.prog 12 #[.slice (some ⟨g, o, none⟩) l.length cap, .int .i64 a] w fun e w' => e = .returned (.tuple #[.int .u64 (wd ((l.drop a).take 8)), .int .i64 0]) ∧ w = w' := by
  have h8 : ((l.drop a).take 8).length = 8 := by rw [List.length_take, List.length_drop]; omega
  have HP := Lib.hid (fun w => piece_yes g o l.length cap a hn hc h w)
  have ht := take_b ((l.drop a).take 8) g (o + a) 8 (by omega) w (fun i hi => by
    rw [Nat.add_assoc, hb (a + i) (by omega)]; simp)
  rw [h8] at ht
  have HT := Lib.hid ht
  clear h ht h8 hb
  obtain ⟨r, hr⟩ : ∃ r, wd ((l.drop a).take 8) = r := ⟨_, rfl⟩
  rw [hr] at HT ⊢
  clear hr
  have hq1 := nil_b
  have hq2 := some_b
  go_enter Tryd.func12, Tryd.ntmps12
  go_wp2_with (first
    | (go_at_call 31; refine (HP.out _).mono ?_; rintro e w1 ⟨rfl, rfl⟩)
    | (go_at_call 32; refine HT.out.mono ?_; rintro e w1 ⟨rfl, rfl⟩))
  go_ret2
  exact ⟨rfl, rfl⟩

theorem same_len (p q : Option Addr) (m n c d : Nat) (h : m ≠ n) (w : World) : Calls Tryd.prog 18 #[.slice p m c, .slice q n d] w fun e w' => e = .returned (.bool false) ∧ w = w' := by
  have h1 : ((m : Int) == (n : Int)) = false := by rw [beq_eq_false_iff_ne]; omega
  have h2 : ((m : Int) != (n : Int)) = true := by simp [bne, h1]
  clear h
  go_enter Tryd.func18, Tryd.ntmps18
  go_wp2_with (fail)
  go_ret
  exact ⟨rfl, rfl⟩
theorem same_pos (a b : List Int) (va vb : Value) (w : World) (hn : a.length ≤ 1000000) (hl : a.length = b.length) (hA : RowAt w va a) (hB : RowAt w vb b) :
    Calls Tryd.prog 18 #[va, vb] w fun e w' => e = .returned (.bool (decide (a = b))) ∧ ∃ q, w' = w.drewN q := by
  have HA := Lib.hid hA
  have HB := Lib.hid hB
  have sa : ∃ p c, va = .slice p a.length c := by
    rcases hA with ⟨rfl, p, c, rfl⟩ | ⟨_, g, o, c, rfl, _⟩
    · exact ⟨_, _, rfl⟩
    · exact ⟨_, _, rfl⟩
  have sb : ∃ p c, vb = .slice p b.length c := by
    rcases hB with ⟨rfl, p, c, rfl⟩ | ⟨_, g, o, c, rfl, _⟩
    · exact ⟨_, _, rfl⟩
    · exact ⟨_, _, rfl⟩
  obtain ⟨pa, ca, rfl⟩ := sa
  obtain ⟨pb, cb, rfl⟩ := sb
  rw [← hl]
  have HL := Lib.hid hl
  obtain ⟨r, hr⟩ : ∃ r, decide (a = b) = r := ⟨_, rfl⟩
  rw [hr]
  have HR := Lib.hid hr
  clear hA hB hl hr
  go_enter Tryd.func18, Tryd.ntmps18
  go_wp2_with (fail)
  go_loopw [5] (fun iv wr => ∃ k q : Nat, iv = .int .i64 k ∧ k ≤ a.length ∧ wr = w.drewN q ∧ Hid (∀ j, j < k → a.getD j 0 = b.getD j 0)) (fun iv _ => a.length - (intOf iv).toNat)
  case atStart => exact ⟨0, 0, rfl, Nat.zero_le _, rfl, Lib.hid fun j hj => absurd hj (Nat.not_lt_zero _)⟩
  case round =>
    obtain ⟨k, q, rfl, hk, rfl, HE⟩ := hrel
    by_cases hlt : k < a.length
    · have h1 : ∃ g o, pa = some ⟨g, o, none⟩ ∧ w.cell? ⟨g, o + k, none⟩ = some (.int .u64 (a.getD k 0)) := by
        rcases HA.out with ⟨h, _⟩ | ⟨_, g, o, c, e, hw⟩
        · rw [h] at hlt; cases hlt
        · cases e; exact ⟨g, o, rfl, by rw [hw.2.2 k hlt]; simp [hlt]⟩
      have h2 : ∃ g o, pb = some ⟨g, o, none⟩ ∧ w.cell? ⟨g, o + k, none⟩ = some (.int .u64 (b.getD k 0)) := by
        have hlt' : k < b.length := by have := HL.out; omega
        rcases HB.out with ⟨h, _⟩ | ⟨_, g, o, c, e, hw⟩
        · rw [h] at hlt'; cases hlt'
        · cases e; exact ⟨g, o, rfl, by rw [hw.2.2 k hlt']; simp [hlt']⟩
      obtain ⟨g1, o1, rfl, c1⟩ := h1
      obtain ⟨g2, o2, rfl, c2⟩ := h2
      obtain ⟨x, hx⟩ : ∃ x, a.getD k 0 = x := ⟨_, rfl⟩
      obtain ⟨y, hy⟩ : ∃ y, b.getD k 0 = y := ⟨_, rfl⟩
      rw [hx] at c1
      rw [hy] at c2
      have HX := Lib.hid (And.intro hx hy)
      have b1 : (k : Int) < (a.length : Int) := by omega
      have b2 : (0 : Int) ≤ (k : Int) := by omega
      have b3 : ((k : Int)).toNat = k := by omega
      have HLT := Lib.hid hlt
      clear hx hy hlt
      by_cases hxy : x = y
      · have hb : (x == y) = true := by simpa using hxy
        have hb2 : (x != y) = false := by simp [bne, hb]
        have HXY := Lib.hid hxy
        clear hxy
        go_wp2_with (fail)
        go_quiet (fail)
        go_wp2_with (fail)
        go_roundw
        case rel =>
          refine ⟨k + 1, _, by go_num, HLT.out, by first | rfl | exact World.drewN_drewN _ _ _, Lib.hid fun j hj => ?_⟩
          by_cases e : j = k
          · subst e; rw [HX.out.1, HX.out.2]; exact HXY.out
          · exact HE.out j (by omega)
        case measure => have := HLT.out; simp [intOf]; omega
      · have hb : (x == y) = false := by simpa using hxy
        have hb2 : (x != y) = true := by simp [bne, hb]
        have hrf : r = false := by
          rw [← HR.out]
          exact decide_eq_false (fun e => hxy (by rw [← HX.out.1, ← HX.out.2, e]))
        subst hrf
        clear hxy
        go_wp2_with (fail)
        go_quiet (fail)
        go_wp2_with (fail)
        go_ret
        exact ⟨rfl, _, by first | rfl | exact World.drewN_drewN _ _ _⟩
    · have hk2 : k = a.length := by omega
      subst hk2
      have hrt : r = true := by
        rw [← HR.out]
        refine decide_eq_true (List.ext_getElem HL.out fun i h1 h2 => ?_)
        have := HE.out i h1
        simpa [h1, h2] using this
      subst hrt
      go_wp2_with (fail)
      go_ret
      exact ⟨rfl, _, rfl⟩
theorem same_r (a b : List Int) (va vb : Value) (w : World) (ha : a.length ≤ 1000000) (hA : RowAt w va a) (hB : RowAt w vb b) :
    Calls Tryd.prog 18 #[va, vb] w fun e w' => e = .returned (.bool (decide (a = b))) ∧ ∃ q, w' = w.drewN q := by
  by_cases hl : a.length = b.length
  · exact same_pos a b va vb w ha hl hA hB
  · have sa : ∃ p c, va = .slice p a.length c := by
      rcases hA with ⟨rfl, p, c, rfl⟩ | ⟨_, g, o, c, rfl, _⟩
      · exact ⟨_, _, rfl⟩
      · exact ⟨_, _, rfl⟩
    have sb : ∃ p c, vb = .slice p b.length c := by
      rcases hB with ⟨rfl, p, c, rfl⟩ | ⟨_, g, o, c, rfl, _⟩
      · exact ⟨_, _, rfl⟩
      · exact ⟨_, _, rfl⟩
    obtain ⟨pa, ca, rfl⟩ := sa
    obtain ⟨pb, cb, rfl⟩ := sb
    refine (same_len pa pb _ _ ca cb hl w).mono ?_
    rintro e w' ⟨rfl, rfl⟩
    exact ⟨by rw [decide_eq_false (fun e => hl (by rw [e]))], 0, rfl⟩
end Go.Proofs.YtnmpgjodndfoiaaDoor
