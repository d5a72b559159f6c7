/-
  CONTRACTS OF THE LOCK TABLE: Holder, Wants, Try, Release.
-/
import Derived.Test.YtajccnmeijgagaaA
import Derived.Lib.Hide
namespace Go.Proofs.Ytajccnmeijgagaa
open Go.RowKit Go.Maps

theorem Tab.c0 {w : World} {b m : Nat} {n : Int} {h : Int → Option Int} {W : Nat → Int} {k : Nat} (t : Tab w b m n h W k) : w.cell? ⟨b, 0, none⟩ = some (.int .i64 n) := by
  rw [t.blk.cell, tabCells_0]
theorem Tab.c1 {w : World} {b m : Nat} {n : Int} {h : Int → Option Int} {W : Nat → Int} {k : Nat} (t : Tab w b m n h W k) : w.cell? ⟨b, 1, none⟩ = some (.map (some m)) := by
  rw [t.blk.cell, tabCells_1]
theorem Tab.cw {w : World} {b m : Nat} {n : Int} {h : Int → Option Int} {W : Nat → Int} {k : Nat} (t : Tab w b m n h W k) (i : Nat) (hi : i < 64) : w.cell? ⟨b, 2 + i, none⟩ = some (.int .u64 (W i)) := by
  rw [t.blk.cell, tabCells_w _ _ _ _ hi]

theorem holder_any (w : World) (b m : Nat) (n : Int) (h : Int → Option Int) (W : Nat → Int) (k : Nat) (t : Tab w b m n h W k) (hn : 0 < n) (id : Int) (hid : (Lit.int .u64 id).wf = true) :
    Calls Try.prog 12 #[.pointer (some ⟨b, 0, none⟩), .int .u64 id] w fun e w' => e = .returned (.tuple #[.int .i64 ((h id).getD 0), .bool (h id).isSome]) ∧ w = w' := by
  have c0 := t.c0
  have c1 := t.c1
  obtain ⟨D, hown, hh⟩ := t.map
  have hkey := keyOf_int_mk Try.underlying29 hid
  have hx : Hid (∀ c : Int, D.atKey (.int .u64 id) (.lit (.int .i64 0)) = .lit (.int .i64 c) → Value.tuple #[.int .i64 c, .bool (Maps.has D (.int .u64 id))] = .tuple #[.int .i64 ((h id).getD 0), .bool (h id).isSome]) := by
    intro c hat
    rw [← hh id]
    cases hs : Maps.has D (.int .u64 id)
    · rw [atKey_of_not_has hs] at hat
      obtain rfl : (0 : Int) = c := by simpa using hat
      rw [hold_none hs]; rfl
    · rw [hold_some hat hs]; rfl
  clear hh
  go_enter Try.func12, Try.ntmps12
  go_wp2_with (first
    | (go_at_call 26; refine (there_yes b n hn _ c0).mono ?_; rintro e w' ⟨rfl, rfl⟩)
    | (at_lookup; refine wpList_lookup_own_ok_int _ rfl _ _ 56 rfl 29 3 .i64 law29 Try.underlying56 Try.underlying3 (zero3 _) m k D rfl hown _ _ rfl hkey ?_; intro c hat hwc))
  go_ret2
  exact ⟨congrArg Ending.returned (hx.out c hat), rfl⟩

theorem wants_any (w : World) (b m : Nat) (n : Int) (h : Int → Option Int) (W : Nat → Int) (k : Nat) (t : Tab w b m n h W k) (c : Int) (h0 : 0 ≤ c) (h1 : c < n) (h2 : n ≤ 64) :
    Calls Try.prog 21 #[.pointer (some ⟨b, 0, none⟩), .int .i64 c] w fun e w' => e = .returned (.tuple #[.int .u64 (W c.toNat), .bool (W c.toNat != 0)]) ∧ ∃ q, w' = w.drewN q := by
  obtain ⟨j, rfl⟩ := Int.eq_ofNat_of_zero_le h0
  have c0 := t.c0
  have cw := t.cw j (by omega)
  have b1 : (j : Int) < 64 := by omega
  clear t
  rw [Int.toNat_natCast]
  go_enter Try.func21, Try.ntmps21
  go_wp2_with (first
    | (go_at_call 22; refine (client_yes b n _ h0 h1 _ c0).mono ?_; rintro e w' ⟨rfl, rfl⟩))
  go_quiet (fail)
  go_wp2
  go_ret2
  exact ⟨rfl, _, rfl⟩

theorem release_none (w : World) (b m : Nat) (n : Int) (h : Int → Option Int) (W : Nat → Int) (k : Nat) (t : Tab w b m n h W k) (c id : Int) (h0 : 0 ≤ c) (h1 : c < n) (h2 : n ≤ 64) (hid : (Lit.int .u64 id).wf = true) (hw : ¬ W c.toNat = id) (hh : h id ≠ some c) :
    Calls Try.prog 11 #[.pointer (some ⟨b, 0, none⟩), .int .i64 c, .int .u64 id] w fun e w' => e = .returned (.bool false) ∧ w = w' := by
  obtain ⟨j, rfl⟩ := Int.eq_ofNat_of_zero_le h0
  have c0 := t.c0
  have cw := t.cw j (by omega)
  have b1 : (j : Int) < 64 := by omega
  rw [Int.toNat_natCast] at hw
  have hw' : (W j == id) = false := by simpa using hw
  have ht := holder_any w b m n h W k t (by omega) id hid
  clear t hw
  have T := Lib.hid ht
  clear ht
  cases hx : h id with
  | none =>
    rw [hx] at T
    clear hx hh
    go_enter Try.func11, Try.ntmps11
    go_wp2_with (first
      | (go_at_call 22; refine (client_yes b n _ h0 h1 _ c0).mono ?_; rintro e w' ⟨rfl, rfl⟩)
      | (go_at_call 12; refine T.out.mono ?_; rintro e w' ⟨rfl, rfl⟩))
    go_ret
    exact ⟨rfl, rfl⟩
  | some x =>
    rw [hx] at T
    have hne : (x != (j : Int)) = true := by rw [hx] at hh; simpa using hh
    clear hx hh
    go_enter Try.func11, Try.ntmps11
    go_wp2_with (first
      | (go_at_call 22; refine (client_yes b n _ h0 h1 _ c0).mono ?_; rintro e w' ⟨rfl, rfl⟩)
      | (go_at_call 12; refine T.out.mono ?_; rintro e w' ⟨rfl, rfl⟩))
    go_ret
    exact ⟨rfl, rfl⟩
end Go.Proofs.Ytajccnmeijgagaa
