/-
  known(): true.
-/
import Derived.Test.YtdekjfbaoaobeaaHn
import Derived.Test.YtdekjfbaoaobeaaJm
import Derived.Test.YtdekjfbaoaobeaaJl
namespace Go.Proofs.Ytdekjfbaoaobeaa
open Go.RowKit

/-- a set of addresses made since w0 -/
def KSet (B : Nat) (w0 : World) (b : Nat) (S : List Int) (w : World) : Prop :=
  ∃ v l, SetV w b v l ∧ l.Perm S ∧ (∀ g, v.ownBlock = some g → B ≤ g) ∧ B ≤ b ∧ B ≤ w.heap.size ∧ Below B w0 w

theorem take_k {B : Nat} {w0 w : World} {b : Nat} {a : Int} {S : List Int} (h : KSet B w0 b (a :: S) w) (hm : ∀ y ∈ S, a ≤ y) (hn : S.length ≤ 1000) :
    Calls Try.prog 26 #[.pointer (some ⟨b, 0, none⟩)] w fun e w' => e = .returned (.tuple #[.int .u64 a, .bool true]) ∧ KSet B w0 b S w' := by
  obtain ⟨v, l, hs, hp, ho, hb, hB, hW⟩ := h
  have hl := hp.length_eq
  simp at hl
  refine (take_some b v l w hs (by omega) (by intro e; subst e; simp at hl)).mono ?_
  rintro e w' ⟨x, rfl, hx, hmin, v', l', hs', hp', hst⟩
  have h1 := hmin a (hp.mem_iff.2 (by simp))
  have h2 : a ≤ x := by
    rcases List.mem_cons.1 (hp.mem_iff.1 hx) with e | e
    · omega
    · exact hm x e
  obtain rfl : x = a := by omega
  exact ⟨rfl, v', l', hs', (hp'.symm.trans hp).cons_inv, hst.own ho hB, hb, Nat.le_trans hB hst.1.size, hst.below ho hb hB hW⟩
theorem takenil_k {B : Nat} {w0 w : World} {b : Nat} (h : KSet B w0 b [] w) :
    Calls Try.prog 26 #[.pointer (some ⟨b, 0, none⟩)] w fun e w' => e = .returned (.tuple #[.int .u64 0, .bool false]) ∧ w = w' := by
  obtain ⟨v, l, hs, hp, _⟩ := h
  obtain rfl := hp.eq_nil
  exact take_none b v w hs
theorem drop_k {B : Nat} {w0 w : World} {b : Nat} {S : List Int} (a : Int) (h : KSet B w0 b S w) (hn : S.length ≤ 1000) :
    Calls Try.prog 24 #[.pointer (some ⟨b, 0, none⟩), .int .u64 a] w fun e w' => e = .returned (.bool (decide (a ∈ S))) ∧ KSet B w0 b (S.erase a) w' := by
  obtain ⟨v, l, hs, hp, ho, hb, hB, hW⟩ := h
  refine (drop_v b v l a w hs (by rw [hp.length_eq]; omega)).mono ?_
  rintro e w' ⟨rfl, v', l', hs', hp', hst⟩
  exact ⟨by rw [show decide (a ∈ l) = decide (a ∈ S) from decide_eq_decide.2 hp.mem_iff], v', l', hs', hp'.trans (hp.erase a), hst.own ho hB, hb, Nat.le_trans hB hst.1.size, hst.below ho hb hB hW⟩

theorem new_k (w : World) : Calls Try.prog 23 #[.slice (some ⟨w.heap.size, 0, none⟩) 3 3] (w.alloc (.cells #[.int .u64 128, .int .u64 64, .int .u64 192] 39)) fun e w' =>
    e = .returned (.pointer (some ⟨w.heap.size + 1, 0, none⟩)) ∧ KSet w.heap.size w (w.heap.size + 1) [64, 128, 192] w' := by
  have hb := Blk.new w #[.int .u64 128, .int .u64 64, .int .u64 192] 39
  have hsz : (w.alloc (.cells #[.int .u64 128, .int .u64 64, .int .u64 192] 39)).heap.size = w.heap.size + 1 := by simp
  have h := newfree_v (some ⟨w.heap.size, 0, none⟩) 3 [128, 64, 192] (w.alloc (.cells #[.int .u64 128, .int .u64 64, .int .u64 192] 39)) (.inr ⟨w.heap.size, 0, rfl, by omega, fun j hj => by
    rw [hb.cell]
    match j, hj with
    | 0, _ => rfl
    | 1, _ => rfl
    | 2, _ => rfl⟩) (by simp)
  refine Calls.mono h ?_
  rintro e w' ⟨v, l, rfl, hs, hm, hl, ho, hB⟩
  rw [hsz] at hs ho hB
  refine ⟨by rw [hsz], v, l, hs, ?_, fun g hg => by have := ho g hg; omega, by omega, by have := hB.size; omega, ((Below.refl _ w).alloc (Nat.le_refl _) _).trans (hB.mono (by omega))⟩
  refine (List.perm_ext_iff_of_nodup hs.nd (by decide)).2 fun x => ?_
  rw [hm]
  simp
  omega

theorem low_74 (w : World) : Calls Try.prog 16 #[.int .u64 7, .int .i64 4] w fun e w' => e = .returned (.tuple #[.int .i64 3, .bool true]) ∧ w = w' := by
  refine Calls.mono (low_v 7 (by decide) 4 w) ?_
  rintro e w' ⟨⟨r, hr, rfl⟩, rfl⟩
  obtain rfl := hr.uniq (show LowR 7 4 3 from .inr ⟨3, rfl, by decide, by decide, by decide, by decide⟩)
  exact ⟨rfl, rfl⟩
theorem low_73 (w : World) : Calls Try.prog 16 #[.int .u64 7, .int .i64 3] w fun e w' => e = .returned (.tuple #[.int .i64 0, .bool false]) ∧ w = w' := by
  refine Calls.mono (low_v 7 (by decide) 3 w) ?_
  rintro e w' ⟨⟨r, hr, rfl⟩, rfl⟩
  obtain rfl := hr.uniq (show LowR 7 3 (-1) from .inl ⟨rfl, fun i h1 _ => by
    match i, h1 with
    | 0, _ => rfl
    | 1, _ => rfl
    | 2, _ => rfl
    | (n + 3), h1 => omega⟩)
  exact ⟨rfl, rfl⟩
theorem set_40 (w : World) : Calls Try.prog 9 #[.int .u64 4, .int .i64 0] w fun e w' => e = .returned (.int .u64 5) ∧ w = w' := by
  have h := bset_v 4 (by decide) 0 w
  rwa [show (4 ||| bitN 0 : Nat) = 5 by decide] at h
theorem clear_52 (w : World) : Calls Try.prog 10 #[.int .u64 5, .int .i64 2] w fun e w' => e = .returned (.int .u64 1) ∧ w = w' := by
  have h := bclear_v 5 (by decide) 2 w
  rwa [show (5 &&& (18446744073709551615 - bitN 2) : Nat) = 1 by decide] at h
theorem may_83 (w : World) : Calls Try.prog 18 #[.int .u64 8, .int .i64 3] w fun e w' => e = .returned (.bool false) ∧ Below w.heap.size w w' := by
  have h := may_calls 8 (by decide) 3 w
  rwa [show mayB 8 3 = false by kernel_rfl] at h

set_option maxRecDepth 100000 in
set_option maxHeartbeats 2000000 in
theorem known_any (w : World) : Calls Try.prog 15 #[] w fun e w' => e = .returned (.bool true) ∧ Below w.heap.size w w' := by
  go_enter Try.func15, Try.ntmps15
  go_wp2_with (first
    | (go_at_call_of 16 (Value.int .i64 4); refine (low_74 _).mono ?_; rintro e w2 ⟨rfl, rfl⟩)
    | (go_at_call_of 16 (Value.int .i64 3); refine (low_73 _).mono ?_; rintro e w2 ⟨rfl, rfl⟩))
  refine (new_k w).mono ?_
  rintro e w1 ⟨rfl, h1⟩
  have K1 := Lib.hid h1
  clear h1
  go_wp2_with (fail)
  refine (take_k K1.out (by decide) (by decide)).mono ?_
  rintro e w2 ⟨rfl, h2⟩
  have K2 := Lib.hid h2
  clear h2
  go_wp2_with (fail)
  refine (drop_k 192 K2.out (by decide)).mono ?_
  rintro e w3 ⟨rfl, h3⟩
  rw [show ([128, 192] : List Int).erase 192 = [128] by decide] at h3
  rw [show decide ((192 : Int) ∈ ([128, 192] : List Int)) = true by decide]
  have K3 := Lib.hid h3
  clear h3
  go_wp2_with (fail)
  refine (take_k K3.out (by decide) (by decide)).mono ?_
  rintro e w4 ⟨rfl, h4⟩
  have K4 := Lib.hid h4
  clear h4
  go_wp2_with (fail)
  refine (takenil_k K4.out).mono ?_
  rintro e w5 ⟨rfl, rfl⟩
  obtain ⟨_, _, _, _, _, _, _, hW⟩ := K4.out
  have KW := Lib.hid hW
  clear hW
  go_wp2_with (first
    | (go_at_call 9; refine (set_40 _).mono ?_; rintro e w2 ⟨rfl, rfl⟩)
    | (go_at_call 10; refine (clear_52 _).mono ?_; rintro e w2 ⟨rfl, rfl⟩)
    | (go_at_call 18; refine (may_83 _).mono ?_; rintro e w6 ⟨rfl, hB6⟩; have KB6 := Lib.hid hB6; clear hB6))
  go_ret
  exact ⟨rfl, KW.out.trans (KB6.out.mono (KW.out.size))⟩
end Go.Proofs.Ytdekjfbaoaobeaa
