/-
  THE LAWS' 'known', and the contracts in the form in which the laws use them.
-/
import Derived.Test.YtajccnmeijgagaaR
namespace Go.Proofs.Ytajccnmeijgagaa
open Go.RowKit Go.Maps

theorem new_tab (n : Int) (h1 : 1 ≤ n) (h2 : n ≤ 64) (w : World) :
    Calls Try.prog 8 #[.int .i64 n] w fun e w' => e = .returned (.tuple #[.pointer (some ⟨w.heap.size + 1, 0, none⟩), .int .i64 0]) ∧ Tab w' (w.heap.size + 1) w.heap.size n (fun _ => none) (fun _ => 0) 0 ∧ Keeps NoB w w' ∧ w'.heap.size = w.heap.size + 2 := by
  refine (new_yes n h1 h2 w).mono ?_
  rintro e w' ⟨rfl, rfl⟩
  refine ⟨rfl, ⟨?_, ⟨.map [], (World.ownsMap_made w _ _ _).alloc _, fun _ => rfl⟩, fun _ _ => wf0⟩, ((Keeps.refl _ w).alloc _).alloc _, by simp⟩
  have := Blk.new (w.alloc (.map #[] 0)) (tabCells n w.heap.size (fun _ => 0)) 59
  rwa [World.size_alloc] at this

theorem try_yes (w : World) (b m : Nat) (n : Int) (h : Int → Option Int) (W : Nat → Int) (k : Nat) (t : Tab w b m n h W k) (hk : k < maxLen) (c id : Int) (h0 : 0 ≤ c) (h1 : c < n) (h2 : n ≤ 64) (hid : (Lit.int .u64 id).wf = true) (hid0 : id ≠ 0) (hh : h id = none ∨ h id = some c) :
    Calls Try.prog 9 #[.pointer (some ⟨b, 0, none⟩), .int .i64 c, .int .u64 id] w fun e w' => e = .returned (.bool true) ∧ Tab w' b m n (updI h id (some c)) (updN W c.toNat 0) (k + 1) ∧ Keeps (Two b m) w w' := by
  refine (try_any w b m n h W k t hk c id h0 h1 h2 hid hid0).mono ?_
  rintro e w' (⟨_, r⟩ | ⟨⟨x, hx, hne⟩, _⟩)
  · exact r
  · rcases hh with hh | hh
    · rw [hh] at hx; cases hx
    · rw [hh] at hx; cases hx; exact absurd rfl hne

theorem try_no (w : World) (b m : Nat) (n : Int) (h : Int → Option Int) (W : Nat → Int) (k : Nat) (t : Tab w b m n h W k) (hk : k < maxLen) (c id : Int) (h0 : 0 ≤ c) (h1 : c < n) (h2 : n ≤ 64) (hid : (Lit.int .u64 id).wf = true) (hid0 : id ≠ 0) (x : Int) (hx : h id = some x) (hne : x ≠ c) :
    Calls Try.prog 9 #[.pointer (some ⟨b, 0, none⟩), .int .i64 c, .int .u64 id] w fun e w' => e = .returned (.bool false) ∧ Tab w' b m n h (updN W c.toNat id) k ∧ Keeps (Two b m) w w' := by
  refine (try_any w b m n h W k t hk c id h0 h1 h2 hid hid0).mono ?_
  rintro e w' (⟨hh, _⟩ | ⟨_, r⟩)
  · rcases hh with hh | hh
    · rw [hh] at hx; cases hx
    · rw [hh] at hx; cases hx; exact absurd rfl hne
  · exact r

theorem runs_r (w : World) (b m : Nat) (n : Int) (h : Int → Option Int) (W : Nat → Int) (k : Nat) (t : Tab w b m n h W k) (c : Int) (h0 : 0 ≤ c) (h1 : c < n) (h2 : n ≤ 64) (hv : ∀ a x, h a = some x → 0 ≤ x ∧ x < n) (r : Int) (hr : runsF (nxt h W) (n.toNat + 1) [] c = r) :
    Calls Try.prog 10 #[.pointer (some ⟨b, 0, none⟩), .int .i64 c] w fun e w' => e = .returned (.int .i64 r) ∧ Keeps NoB w w' := by
  subst hr; exact runs_any w b m n h W k t c h0 h1 h2 hv

theorem release_r (w : World) (b m : Nat) (n : Int) (h : Int → Option Int) (W : Nat → Int) (k : Nat) (t : Tab w b m n h W k) (c id : Int) (h0 : 0 ≤ c) (h1 : c < n) (h2 : n ≤ 64) (hid : (Lit.int .u64 id).wf = true) (r : Bool) (hr : decide (h id = some c) = r) :
    Calls Try.prog 11 #[.pointer (some ⟨b, 0, none⟩), .int .i64 c, .int .u64 id] w fun e w' =>
      e = .returned (.bool r) ∧ Tab w' b m n (if h id = some c then updI h id none else h) (if W c.toNat = id then updN W c.toNat 0 else W) k ∧ Keeps (Two b m) w w' := by
  subst hr; exact release_any w b m n h W k t c id h0 h1 h2 hid

theorem updI_range {h : Int → Option Int} {n : Int} (hv : ∀ a x, h a = some x → 0 ≤ x ∧ x < n) (i c : Int) (hc : 0 ≤ c ∧ c < n) : ∀ a x, updI h i (some c) a = some x → 0 ≤ x ∧ x < n := by
  intro a x hx
  unfold updI at hx
  split at hx
  · cases hx; exact hc
  · exact hv a x hx
theorem updI_range_none {h : Int → Option Int} {n : Int} (hv : ∀ a x, h a = some x → 0 ≤ x ∧ x < n) (i : Int) : ∀ a x, updI h i none a = some x → 0 ≤ x ∧ x < n := by
  intro a x hx
  unfold updI at hx
  split at hx
  · cases hx
  · exact hv a x hx

theorem Keeps.two {w w1 w2 : World} {b m : Nat} (h : Keeps NoB w w1) (k : Keeps (Two b m) w1 w2) (hb : w.heap.size ≤ b) (hm : w.heap.size ≤ m) : Keeps NoB w w2 :=
  h.trans' k (fun i hi hS => by rcases hS with hS | hS <;> omega)

theorem none_range {n : Int} : ∀ a x, (fun (_ : Int) => (none : Option Int)) a = some x → 0 ≤ x ∧ x < n := by intro a x h; cases h

set_option maxRecDepth 100000 in
theorem known_any (w : World) : Calls Try.prog 7 #[] w fun e w' => e = .returned (.bool true) ∧ Keeps NoB w w' := by
  have HN := Lib.hid (new_tab 3 (by omega) (by omega) w)
  go_enter Try.func7, Try.ntmps7
  go_wp2_with (fail)
  refine HN.out.mono ?_
  rintro e w1 ⟨rfl, t1, k1, s1⟩
  have HT := Lib.hid t1
  have HK := Lib.hid k1
  clear t1 k1 HN
  go_wp2_with (fail)
  have hb : w.heap.size ≤ w.heap.size + 1 := by omega
  refine (try_yes w1 _ _ 3 _ _ 0 HT.out (by unfold maxLen; omega) 0 64 (by omega) (by omega) (by omega) (by decide) (by omega) (.inl rfl)).mono ?_
  rintro e w2 ⟨rfl, t, k⟩
  have HT2 := Lib.hid t
  have HK2 := Lib.hid (HK.out.two k hb (Nat.le_refl _))
  clear t k HT HK
  go_wp2_with (fail)
  refine (try_no w2 _ _ 3 _ _ 1 HT2.out (by unfold maxLen; omega) 1 64 (by omega) (by omega) (by omega) (by decide) (by omega) 0 rfl (by omega)).mono ?_
  rintro e w3 ⟨rfl, t, k⟩
  have HT3 := Lib.hid t
  have HK3 := Lib.hid (HK2.out.two k hb (Nat.le_refl _))
  clear t k HT2 HK2
  go_wp2_with (fail)
  refine (wants_any w3 _ _ 3 _ _ 1 HT3.out 1 (by omega) (by omega) (by omega)).mono ?_
  rintro e w4 ⟨rfl, q, rfl⟩
  have HT4 := Lib.hid (HT3.out.drewN q)
  have HK4 := Lib.hid (HK3.out.drewN q)
  clear HT3 HK3
  obtain ⟨w4, hw4⟩ : ∃ w4, w4 = w3.drewN q := ⟨_, rfl⟩
  rw [← hw4] at HT4 HK4 ⊢
  clear hw4
  go_wp2_with (fail)
  have hr : ∀ a x, updI (fun _ => none) 64 (some 0) a = some x → 0 ≤ x ∧ x < (3 : Int) := updI_range none_range _ _ (by omega)
  have HR := Lib.hid hr
  clear hr
  refine (runs_r w4 _ _ 3 _ _ 1 HT4.out 1 (by omega) (by omega) (by omega) HR.out 0 (by decide)).mono ?_
  rintro e w5 ⟨rfl, k⟩
  have HT5 := Lib.hid (HT4.out.kept k id id)
  have HK5 := Lib.hid (HK4.out.trans k)
  clear k HT4 HK4
  go_wp2_with (fail)
  refine (release_r w5 _ _ 3 _ _ 1 HT5.out 0 64 (by omega) (by omega) (by omega) (by decide) true (by decide)).mono ?_
  rintro e w6 ⟨rfl, t, k⟩
  have HT6 := Lib.hid t
  have HK6 := Lib.hid (HK5.out.two k hb (Nat.le_refl _))
  clear t k HT5 HK5
  go_wp2_with (fail)
  have hr : ∀ a x, updI (updI (fun _ => none) 64 (some 0)) 64 none a = some x → 0 ≤ x ∧ x < (3 : Int) := updI_range_none HR.out _
  have HR2 := Lib.hid hr
  clear hr
  refine (runs_r w6 _ _ 3 _ _ 1 HT6.out 1 (by omega) (by omega) (by omega) HR2.out 1 (by decide)).mono ?_
  rintro e w7 ⟨rfl, k⟩
  have HT7 := Lib.hid (HT6.out.kept k id id)
  have HK7 := Lib.hid (HK6.out.trans k)
  clear k HT6 HK6
  go_wp2_with (fail)
  refine (try_yes w7 _ _ 3 _ _ 1 HT7.out (by unfold maxLen; omega) 2 64 (by omega) (by omega) (by omega) (by decide) (by omega) (.inl rfl)).mono ?_
  rintro e w8 ⟨rfl, t, k⟩
  have HK8 := Lib.hid (HK7.out.two k hb (Nat.le_refl _))
  clear t k HT7 HK7
  go_wp2_with (fail)
  go_ret
  exact ⟨rfl, HK8.out⟩
end Go.Proofs.Ytajccnmeijgagaa
