/-
  CONTRACTS OF THE LOCK TABLE: Release, Try.
-/
import Derived.Test.YtajccnmeijgagaaB
import Derived.BigRegion
namespace Go.Proofs.Ytajccnmeijgagaa
open Go.RowKit Go.Maps

def Two (b m : Nat) : Nat → Prop := fun x => x = b ∨ x = m

theorem wf0 : (Lit.int .u64 0).wf = true := by decide

theorem Tab.setW {w : World} {b m : Nat} {n : Int} {h : Int → Option Int} {W : Nat → Int} {k : Nat} (t : Tab w b m n h W k) (i : Nat) (hi : i < 64) (v : Int) (hv : (Lit.int .u64 v).wf = true) :
    Tab (w.setCell ⟨b, 2 + i, none⟩ (.int .u64 v)) b m n h (updN W i v) k := by
  have hne := t.ne
  obtain ⟨D, hD, hh⟩ := t.map
  refine ⟨?_, ⟨D, hD.setCell (a := ⟨b, 2 + i, none⟩) (fun e => hne e.symm) _, hh⟩, ?_⟩
  · have := t.blk.set (2 + i) (.int .u64 v)
    rwa [tabCells_set _ _ _ _ _ hi] at this
  · intro j hj
    unfold updN
    split
    · exact hv
    · exact t.wf j hj

theorem Tab.mono {w : World} {b m : Nat} {n : Int} {h : Int → Option Int} {W : Nat → Int} {k k' : Nat} (t : Tab w b m n h W k) (hk : k ≤ k') : Tab w b m n h W k' := by
  obtain ⟨D, hD, hh⟩ := t.map
  exact ⟨t.blk, ⟨D, hD.mono hk, hh⟩, t.wf⟩

def RelPost (w : World) (b m : Nat) (n : Int) (h : Int → Option Int) (W : Nat → Int) (k : Nat) (c id : Int) (e : Ending) (w' : World) : Prop :=
  e = .returned (.bool (decide (h id = some c))) ∧ Tab w' b m n (if h id = some c then updI h id none else h) (if W c.toNat = id then updN W c.toNat 0 else W) k ∧ Keeps (Two b m) w w'

set_option maxRecDepth 100000 in
theorem release_any (w : World) (b m : Nat) (n : Int) (h : Int → Option Int) (W : Nat → Int) (k : Nat) (t : Tab w b m n h W k) (c id : Int) (h0 : 0 ≤ c) (h1 : c < n) (h2 : n ≤ 64) (hid : (Lit.int .u64 id).wf = true) :
    Calls Try.prog 11 #[.pointer (some ⟨b, 0, none⟩), .int .i64 c, .int .u64 id] w (RelPost w b m n h W k c id) := by
  obtain ⟨j, rfl⟩ := Int.eq_ofNat_of_zero_le h0
  have hj : j < 64 := by omega
  have c0 := t.c0
  have cw := t.cw j hj
  have b1 : (j : Int) < 64 := by omega
  have ff : w.frozen? ⟨b, 2 + j, none⟩ = false := t.blk.frozen _
  have hkey := keyOf_int_mk Try.underlying29 hid
  by_cases hW : W j = id
  · have hw' : (W j == id) = true := by simpa using hW
    have t1 := t.setW j hj 0 wf0
    have H1 := Lib.hid (holder_any _ b m n h _ k t1 (by omega) id hid)
    have d1 := t1.c1
    have K1 : Keeps (Two b m) w (w.setCell ⟨b, 2 + j, none⟩ (.int .u64 0)) := (Keeps.refl _ w).setCell (.inl (.inl rfl)) _
    have fin := Lib.hid (fun (ok : Bool) w' (hok : decide (h id = some (j : Int)) = ok) (ht : Tab w' b m n (if h id = some (j : Int) then updI h id none else h) (updN W j 0) k) (hk : Keeps (Two b m) (w.setCell ⟨b, 2 + j, none⟩ (.int .u64 0)) w') =>
      show RelPost w b m n h W k j id (.returned (.bool ok)) w' from ⟨by rw [hok], by rw [Int.toNat_natCast, if_pos hW]; exact ht, K1.trans hk⟩)
    have T1 := Lib.hid t1
    have hdel := Lib.hid (t1.map)
    clear t t1 hW K1
    cases hx : h id with
    | none =>
      rw [hx] at H1
      have hno := Lib.hid hx
      clear hx
      go_enter Try.func11, Try.ntmps11
      go_wp2_with (first
        | (go_at_call 22; refine (client_yes b n _ h0 h1 _ c0).mono ?_; rintro e w' ⟨rfl, rfl⟩)
        | (go_at_call 12; refine H1.out.mono ?_; rintro e w' ⟨rfl, rfl⟩))
      go_ret
      exact fin.out false _ (by rw [hno.out]; rfl) (by rw [hno.out, if_neg (by simp)]; exact T1.out) (Keeps.refl _ _)
    | some x =>
      rw [hx] at H1
      have hno := Lib.hid hx
      clear hx
      by_cases hxe : x = (j : Int)
      · subst hxe
        obtain ⟨D, hown, hh⟩ := hdel.out
        have hH := Lib.hid hh
        have TT := Lib.hid T1.out.wf
        have TB := Lib.hid T1.out.blk
        have hne := Lib.hid T1.out.ne
        clear hh hdel T1
        go_enter Try.func11, Try.ntmps11
        go_wp2_with (first
          | (go_at_call 22; refine (client_yes b n _ h0 h1 _ c0).mono ?_; rintro e w' ⟨rfl, rfl⟩)
          | (go_at_call 12; refine H1.out.mono ?_; rintro e w' ⟨rfl, rfl⟩)
          | (at_delete; refine wpList_delete_own _ rfl _ _ 56 29 rfl 3 law29 Try.underlying56 _ m k D rfl hown _ _ rfl hkey ?_; intro w1 hown1 hturn1))
        go_ret
        refine fin.out true _ (by rw [hno.out]; simp) ?_ ?_
        · rw [hno.out, if_pos rfl]
          exact ⟨TB.out.grown hturn1.grown (fun e => hne.out (Option.some.inj e)), ⟨_, hown1, fun a => by rw [hold_del]; unfold updI; split; rfl; exact hH.out a⟩, TT.out⟩
        · exact (Keeps.refl _ _).grown hturn1.grown (fun k e => .inl (.inr (Option.some.inj e).symm))
      · have hxe' : (x != (j : Int)) = true := by simpa using hxe
        have hne := Lib.hid hxe
        clear hxe
        go_enter Try.func11, Try.ntmps11
        go_wp2_with (first
          | (go_at_call 22; refine (client_yes b n _ h0 h1 _ c0).mono ?_; rintro e w' ⟨rfl, rfl⟩)
          | (go_at_call 12; refine H1.out.mono ?_; rintro e w' ⟨rfl, rfl⟩))
        go_ret
        exact fin.out false _ (by rw [hno.out]; simp [hne.out]) (by rw [hno.out, if_neg (by simp [hne.out])]; exact T1.out) (Keeps.refl _ _)
  · have hw' : (W j == id) = false := by simpa using hW
    have H1 := Lib.hid (holder_any _ b m n h _ k t (by omega) id hid)
    have d1 := t.c1
    have fin := Lib.hid (fun (ok : Bool) w' (hok : decide (h id = some (j : Int)) = ok) (ht : Tab w' b m n (if h id = some (j : Int) then updI h id none else h) W k) (hk : Keeps (Two b m) w w') =>
      show RelPost w b m n h W k j id (.returned (.bool ok)) w' from ⟨by rw [hok], by rw [Int.toNat_natCast, if_neg hW]; exact ht, hk⟩)
    have T1 := Lib.hid t
    have hdel := Lib.hid (t.map)
    clear t hW
    cases hx : h id with
    | none =>
      rw [hx] at H1
      have hno := Lib.hid hx
      clear hx
      go_enter Try.func11, Try.ntmps11
      go_wp2_with (first
        | (go_at_call 22; refine (client_yes b n _ h0 h1 _ c0).mono ?_; rintro e w' ⟨rfl, rfl⟩)
        | (go_at_call 12; refine H1.out.mono ?_; rintro e w' ⟨rfl, rfl⟩))
      go_ret
      exact fin.out false _ (by rw [hno.out]; rfl) (by rw [hno.out, if_neg (by simp)]; exact T1.out) (Keeps.refl _ _)
    | some x =>
      rw [hx] at H1
      have hno := Lib.hid hx
      clear hx
      by_cases hxe : x = (j : Int)
      · subst hxe
        obtain ⟨D, hown, hh⟩ := hdel.out
        have hH := Lib.hid hh
        have TT := Lib.hid T1.out.wf
        have TB := Lib.hid T1.out.blk
        have hne := Lib.hid T1.out.ne
        clear hh hdel T1
        go_enter Try.func11, Try.ntmps11
        go_wp2_with (first
          | (go_at_call 22; refine (client_yes b n _ h0 h1 _ c0).mono ?_; rintro e w' ⟨rfl, rfl⟩)
          | (go_at_call 12; refine H1.out.mono ?_; rintro e w' ⟨rfl, rfl⟩)
          | (at_delete; refine wpList_delete_own _ rfl _ _ 56 29 rfl 3 law29 Try.underlying56 _ m k D rfl hown _ _ rfl hkey ?_; intro w1 hown1 hturn1))
        go_ret
        refine fin.out true _ (by rw [hno.out]; simp) ?_ ?_
        · rw [hno.out, if_pos rfl]
          exact ⟨TB.out.grown hturn1.grown (fun e => hne.out (Option.some.inj e)), ⟨_, hown1, fun a => by rw [hold_del]; unfold updI; split; rfl; exact hH.out a⟩, TT.out⟩
        · exact (Keeps.refl _ _).grown hturn1.grown (fun k e => .inl (.inr (Option.some.inj e).symm))
      · have hxe' : (x != (j : Int)) = true := by simpa using hxe
        have hne := Lib.hid hxe
        clear hxe
        go_enter Try.func11, Try.ntmps11
        go_wp2_with (first
          | (go_at_call 22; refine (client_yes b n _ h0 h1 _ c0).mono ?_; rintro e w' ⟨rfl, rfl⟩)
          | (go_at_call 12; refine H1.out.mono ?_; rintro e w' ⟨rfl, rfl⟩))
        go_ret
        exact fin.out false _ (by rw [hno.out]; simp [hne.out]) (by rw [hno.out, if_neg (by simp [hne.out])]; exact T1.out) (Keeps.refl _ _)
end Go.Proofs.Ytajccnmeijgagaa
