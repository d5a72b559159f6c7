/-
  THE LOCK TABLE's CALLS AT WHATEVER ARGUMENTS: Try, Release, Holder as functions of what the table says.
-/
import Derived.Test.YtajccnmeijgagaaK
import Derived.Test.YtajccnmeijgagaaHe
namespace Go.Proofs.Ytajccnmeijgagaa
open Go.RowKit Go.Maps

def tryB (n : Int) (h : Int → Option Int) (c id : Int) : Bool := decide (0 ≤ c ∧ c < n ∧ id ≠ 0 ∧ (h id = none ∨ h id = some c))
def tryH (n : Int) (h : Int → Option Int) (c id : Int) : Int → Option Int := if tryB n h c id = true then updI h id (some c) else h
def tryW (n : Int) (h : Int → Option Int) (W : Nat → Int) (c id : Int) : Nat → Int := if 0 ≤ c ∧ c < n ∧ id ≠ 0 then updN W c.toNat (if tryB n h c id = true then 0 else id) else W
def relB (n : Int) (h : Int → Option Int) (c id : Int) : Bool := decide (0 ≤ c ∧ c < n ∧ h id = some c)
def relH (n : Int) (h : Int → Option Int) (c id : Int) : Int → Option Int := if relB n h c id = true then updI h id none else h
def relW (n : Int) (W : Nat → Int) (c id : Int) : Nat → Int := if 0 ≤ c ∧ c < n ∧ W c.toNat = id then updN W c.toNat 0 else W

def Rng (n : Int) (h : Int → Option Int) : Prop := ∀ a x, h a = some x → 0 ≤ x ∧ x < n
theorem rng_try {n : Int} {h : Int → Option Int} (hv : Rng n h) (c id : Int) : Rng n (tryH n h c id) := by
  unfold tryH
  split
  · rename_i hb
    unfold tryB at hb
    have := of_decide_eq_true hb
    exact updI_range hv id c ⟨this.1, this.2.1⟩
  · exact hv
theorem rng_rel {n : Int} {h : Int → Option Int} (hv : Rng n h) (c id : Int) : Rng n (relH n h c id) := by
  unfold relH
  split
  · exact updI_range_none hv id
  · exact hv

theorem holder_no (w : World) (b m : Nat) (n : Int) (h : Int → Option Int) (W : Nat → Int) (k : Nat) (t : Tab w b m n h W k) (hn : 0 < n) (id : Int) (hid : (Lit.int .u64 id).wf = true) (hr : h id = none) :
    Calls Try.prog 12 #[.pointer (some ⟨b, 0, none⟩), .int .u64 id] w fun e w' => e = .returned (.tuple #[.int .i64 0, .bool false]) ∧ w = w' := by
  have := holder_any w b m n h W k t hn id hid
  rw [hr] at this; exact this
theorem holder_is (w : World) (b m : Nat) (n : Int) (h : Int → Option Int) (W : Nat → Int) (k : Nat) (t : Tab w b m n h W k) (hn : 0 < n) (id : Int) (hid : (Lit.int .u64 id).wf = true) (x : Int) (hr : h id = some x) :
    Calls Try.prog 12 #[.pointer (some ⟨b, 0, none⟩), .int .u64 id] w fun e w' => e = .returned (.tuple #[.int .i64 x, .bool true]) ∧ w = w' := by
  have := holder_any w b m n h W k t hn id hid
  rw [hr] at this; exact this

theorem try_f (w : World) (b m : Nat) (n : Int) (h : Int → Option Int) (W : Nat → Int) (k : Nat) (t : Tab w b m n h W k) (hk : k < maxLen) (hn : 0 < n) (h2 : n ≤ 64) (c id : Int) (hid : (Lit.int .u64 id).wf = true) (r : Bool) (hr : tryB n h c id = r) :
    Calls Try.prog 9 #[.pointer (some ⟨b, 0, none⟩), .int .i64 c, .int .u64 id] w fun e w' => e = .returned (.bool r) ∧ Tab w' b m n (tryH n h c id) (tryW n h W c id) (k + 1) ∧ Keeps (Two b m) w w' := by
  subst hr
  by_cases h0 : 0 ≤ c ∧ c < n
  · by_cases hz : id = 0
    · subst hz
      have e1 : tryB n h c 0 = false := by unfold tryB; simp
      have e2 : tryH n h c 0 = h := by unfold tryH; rw [e1]; rfl
      have e3 : tryW n h W c 0 = W := by unfold tryW; rw [if_neg (by omega)]
      rw [e1, e2, e3]
      refine (try_zero w b n c hn t.c0).mono ?_
      rintro e w' ⟨rfl, rfl⟩
      exact ⟨rfl, t.mono (by omega), Keeps.refl _ _⟩
    · by_cases hh : h id = none ∨ h id = some c
      · have e1 : tryB n h c id = true := decide_eq_true ⟨h0.1, h0.2, hz, hh⟩
        have e2 : tryH n h c id = updI h id (some c) := by unfold tryH; rw [e1]; rfl
        have e3 : tryW n h W c id = updN W c.toNat 0 := by unfold tryW; rw [if_pos ⟨h0.1, h0.2, hz⟩, e1]; rfl
        rw [e1, e2, e3]
        exact try_yes w b m n h W k t hk c id h0.1 h0.2 h2 hid hz hh
      · have e1 : tryB n h c id = false := decide_eq_false (fun e => hh e.2.2.2)
        have e2 : tryH n h c id = h := by unfold tryH; rw [e1]; rfl
        have e3 : tryW n h W c id = updN W c.toNat id := by unfold tryW; rw [if_pos ⟨h0.1, h0.2, hz⟩, e1]; rfl
        rw [e1, e2, e3]
        obtain ⟨x, hx⟩ : ∃ x, h id = some x := by
          cases hq : h id with
          | none => exact absurd (.inl hq) hh
          | some x => exact ⟨x, rfl⟩
        refine (try_no w b m n h W k t hk c id h0.1 h0.2 h2 hid hz x hx (fun e => hh (.inr (by rw [hx, e])))).mono ?_
        rintro e w' ⟨rfl, t', k'⟩
        exact ⟨rfl, t'.mono (by omega), k'⟩
  · have e1 : tryB n h c id = false := decide_eq_false (fun e => h0 ⟨e.1, e.2.1⟩)
    have e2 : tryH n h c id = h := by unfold tryH; rw [e1]; rfl
    have e3 : tryW n h W c id = W := by unfold tryW; rw [if_neg (fun e => h0 ⟨e.1, e.2.1⟩)]
    rw [e1, e2, e3]
    refine (try_out w b n c id hn (by omega) t.c0).mono ?_
    rintro e w' ⟨rfl, rfl⟩
    exact ⟨rfl, t.mono (by omega), Keeps.refl _ _⟩

theorem release_out (w : World) (b : Nat) (n c id : Int) (hn : 0 < n) (hc : c < 0 ∨ n ≤ c) (c0 : w.cell? ⟨b, 0, none⟩ = some (.int .i64 n)) :
    Calls Try.prog 11 #[.pointer (some ⟨b, 0, none⟩), .int .i64 c, .int .u64 id] w fun e w' => e = .returned (.bool false) ∧ w = w' := by
  have H := Lib.hid (client_no b n c hn hc w c0)
  clear hc
  go_enter Try.func11, Try.ntmps11
  go_wp2_with (go_at_call 22; refine H.out.mono ?_; rintro e w' ⟨rfl, rfl⟩)
  go_ret
  exact ⟨rfl, rfl⟩

theorem rel_f (w : World) (b m : Nat) (n : Int) (h : Int → Option Int) (W : Nat → Int) (k : Nat) (t : Tab w b m n h W k) (hn : 0 < n) (h2 : n ≤ 64) (c id : Int) (hid : (Lit.int .u64 id).wf = true) (r : Bool) (hr : relB n h c id = r) :
    Calls Try.prog 11 #[.pointer (some ⟨b, 0, none⟩), .int .i64 c, .int .u64 id] w fun e w' => e = .returned (.bool r) ∧ Tab w' b m n (relH n h c id) (relW n W c id) k ∧ Keeps (Two b m) w w' := by
  subst hr
  by_cases h0 : 0 ≤ c ∧ c < n
  · have e1 : relB n h c id = decide (h id = some c) := by unfold relB; simp [h0.1, h0.2]
    have e2 : relH n h c id = if h id = some c then updI h id none else h := by unfold relH; rw [e1]; simp
    have e3 : relW n W c id = if W c.toNat = id then updN W c.toNat 0 else W := by unfold relW; simp [h0.1, h0.2]
    rw [e1, e2, e3]
    exact release_r w b m n h W k t c id h0.1 h0.2 h2 hid _ rfl
  · have e1 : relB n h c id = false := decide_eq_false (fun e => h0 ⟨e.1, e.2.1⟩)
    have e2 : relH n h c id = h := by unfold relH; rw [e1]; rfl
    have e3 : relW n W c id = W := by unfold relW; rw [if_neg (fun e => h0 ⟨e.1, e.2.1⟩)]
    rw [e1, e2, e3]
    refine (release_out w b n c id hn (by omega) t.c0).mono ?_
    rintro e w' ⟨rfl, rfl⟩
    exact ⟨rfl, t, Keeps.refl _ _⟩

/-- a row of acts in memory: kind, client, address -/
def ActsAt (w : World) (g o : Nat) (l : List (Int × Int × Int)) : Prop :=
  ∀ i, i < l.length → w.cell? ⟨g, o + i * 3, none⟩ = some (.int .i64 (l.getD i (0, 0, 0)).1) ∧ w.cell? ⟨g, o + i * 3 + 1, none⟩ = some (.int .i64 (l.getD i (0, 0, 0)).2.1) ∧
    w.cell? ⟨g, o + i * 3 + 2, none⟩ = some (.int .u64 (l.getD i (0, 0, 0)).2.2) ∧ (Lit.int .u64 (l.getD i (0, 0, 0)).2.2).wf = true
theorem ActsAt.kept {w w' : World} {g o : Nat} {l : List (Int × Int × Int)} (h : ActsAt w g o l) (hk : Keeps NoB w w') (hg : g < w.heap.size) : ActsAt w' g o l := fun i hi => by
  obtain ⟨a, b, c, d⟩ := h i hi
  exact ⟨(hk.cell (p := ⟨g, _, none⟩) hg id).trans a, (hk.cell (p := ⟨g, _, none⟩) hg id).trans b, (hk.cell (p := ⟨g, _, none⟩) hg id).trans c, d⟩
end Go.Proofs.Ytajccnmeijgagaa
