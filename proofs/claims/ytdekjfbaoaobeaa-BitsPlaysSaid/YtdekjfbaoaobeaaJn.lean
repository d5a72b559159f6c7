/-
  No set, and a zero one; the law BitsNil, walked.
-/
import Derived.Test.YtdekjfbaoaobeaaKn
namespace Go.Proofs.Ytdekjfbaoaobeaa
open Go.RowKit

theorem KSet.keep {B : Nat} {w0 w w' : World} {b : Nat} {S : List Int} (h : KSet B w0 b S w) (hB : Below w.heap.size w w') : KSet B w0 b S w' := by
  obtain ⟨v, l, hs, hp, ho, hb, hBw, hW⟩ := h
  exact ⟨v, l, ⟨hs.hv.keep hB, hs.hp, hs.nd⟩, hp, ho, hb, Nat.le_trans hBw hB.size, hW.trans (hB.mono hBw)⟩
theorem zero_k (w : World) : KSet w.heap.size w w.heap.size [] (w.alloc (.cells #[.slice none 0 0] 58)) :=
  ⟨.slice none 0 0, [], ⟨⟨Blk.new w _ _, World.ownsRow_nil _ _ _ _, fun e => by simp [Value.ownBlock] at e⟩, fun k hk => absurd hk (Nat.not_lt_zero _), List.nodup_nil⟩, .refl _, fun g e => by simp [Value.ownBlock] at e, Nat.le_refl _, by simp, (Below.refl _ w).alloc (Nat.le_refl _) _⟩
theorem len_k {B : Nat} {w0 w : World} {b : Nat} {S : List Int} (h : KSet B w0 b S w) : Calls Try.prog 28 #[.pointer (some ⟨b, 0, none⟩)] w fun e w' => e = .returned (.int .i64 S.length) ∧ w = w' := by
  obtain ⟨v, l, hs, hp, _⟩ := h
  have := flen_v b v l w hs.hv
  rwa [hp.length_eq] at this
theorem has_kk {B : Nat} {w0 w : World} {b : Nat} {S : List Int} (a : Int) (h : KSet B w0 b S w) (hn : S.length ≤ 1000) : Calls Try.prog 27 #[.pointer (some ⟨b, 0, none⟩), .int .u64 a] w fun e w' => e = .returned (.bool (decide (a ∈ S))) ∧ KSet B w0 b S w' := by
  have h0 := h
  obtain ⟨v, l, hs, hp, _⟩ := h
  refine (has_v b v l a w hs.hv (by rw [hp.length_eq]; omega)).mono ?_
  rintro e w' ⟨rfl, hB⟩
  exact ⟨by rw [show decide (a ∈ l) = decide (a ∈ S) from decide_eq_decide.2 hp.mem_iff], h0.keep hB⟩
theorem put_k {B : Nat} {w0 w : World} {b : Nat} {S : List Int} (a : Int) (h : KSet B w0 b S w) (hn : S.length ≤ 1000) (ha : a ≠ 0) : Calls Try.prog 30 #[.pointer (some ⟨b, 0, none⟩), .int .u64 a] w fun e w' => e = .returned (.int .i64 0) ∧ KSet B w0 b (if a ∈ S then S else a :: S) w' := by
  obtain ⟨v, l, hs, hp, ho, hb, hB, hW⟩ := h
  refine (put_v b v l a w hs (by rw [hp.length_eq]; omega) ha).mono ?_
  rintro e w' ⟨rfl, v', l', hs', hp', hst⟩
  refine ⟨rfl, v', l', hs', ?_, hst.own ho hB, hb, Nat.le_trans hB hst.1.size, hst.below ho hb hB hW⟩
  by_cases hm : a ∈ S
  · rw [if_pos hm]; rw [if_pos (hp.mem_iff.2 hm)] at hp'; exact hp'.trans hp
  · rw [if_neg hm]; rw [if_neg (fun e => hm (hp.mem_iff.1 e))] at hp'; exact hp'.trans (hp.cons a)
theorem all_k {B : Nat} {w0 w : World} {b : Nat} (h : KSet B w0 b [] w) : Calls Try.prog 25 #[.pointer (some ⟨b, 0, none⟩)] w fun e w' => e = .returned (.slice none 0 0) ∧ w = w' := by
  have HL := Lib.hid (len_k h)
  clear h
  go_enter Try.func25, Try.ntmps25
  go_wp2_with (go_at_call 28; refine HL.out.mono ?_; rintro e w2 ⟨rfl, rfl⟩)
  go_ret
  exact ⟨rfl, rfl⟩

theorem len_nil (w : World) : Calls Try.prog 28 #[.pointer none] w fun e w' => e = .returned (.int .i64 0) ∧ w = w' := by
  go_enter Try.func28, Try.ntmps28
  go_wp2_with (fail)
  go_ret
  exact ⟨rfl, rfl⟩
theorem take_nil (w : World) : Calls Try.prog 26 #[.pointer none] w fun e w' => e = .returned (.tuple #[.int .u64 0, .bool false]) ∧ w = w' := by
  go_enter Try.func26, Try.ntmps26
  go_wp2_with (go_at_call 28; refine (len_nil _).mono ?_; rintro e w2 ⟨rfl, rfl⟩)
  go_ret2
  exact ⟨rfl, rfl⟩
theorem all_nil (w : World) : Calls Try.prog 25 #[.pointer none] w fun e w' => e = .returned (.slice none 0 0) ∧ w = w' := by
  go_enter Try.func25, Try.ntmps25
  go_wp2_with (go_at_call 28; refine (len_nil _).mono ?_; rintro e w2 ⟨rfl, rfl⟩)
  go_ret
  exact ⟨rfl, rfl⟩
theorem copy_nil (w : World) : Calls Try.prog 33 #[.pointer none] w fun e w' => e = .returned (.pointer none) ∧ w = w' := by
  go_enter Try.func33, Try.ntmps33
  go_wp2_with (fail)
  go_ret
  exact ⟨rfl, rfl⟩
theorem put_nil (a : Int) (w : World) : Calls Try.prog 30 #[.pointer none, .int .u64 a] w fun e w' => e = .returned (.int .i64 1) ∧ w = w' := by
  go_enter Try.func30, Try.ntmps30
  go_wp2_with (fail)
  go_ret
  exact ⟨rfl, rfl⟩
theorem place_nil (a : Int) (w : World) : Calls Try.prog 39 #[.pointer none, .int .u64 a] w fun e w' => e = .returned (.int .i64 (-1)) ∧ Below w.heap.size w w' := by
  go_enter Try.func39, Try.ntmps39
  go_wp2_with (fail)
  go_ret
  exact ⟨rfl, (Below.refl _ w).alloc (Nat.le_refl _) _⟩
theorem has_nil (a : Int) (w : World) : Calls Try.prog 27 #[.pointer none, .int .u64 a] w fun e w' => e = .returned (.bool false) ∧ Below w.heap.size w w' := by
  go_enter Try.func27, Try.ntmps27
  go_wp2_with (go_at_call 39; refine (place_nil a _).mono ?_; rintro e w2 ⟨rfl, hB⟩; have HB := Lib.hid hB; clear hB)
  go_ret
  exact ⟨rfl, HB.out⟩
theorem drop_nil (a : Int) (w : World) : Calls Try.prog 24 #[.pointer none, .int .u64 a] w fun e w' => e = .returned (.bool false) ∧ Below w.heap.size w w' := by
  go_enter Try.func24, Try.ntmps24
  go_wp2_with (go_at_call 39; refine (place_nil a _).mono ?_; rintro e w2 ⟨rfl, hB⟩; have HB := Lib.hid hB; clear hB)
  go_ret
  exact ⟨rfl, HB.out⟩

set_option maxRecDepth 100000 in
set_option maxHeartbeats 4000000 in
theorem nil_law (w : World) : Calls Try.prog 8 #[] w fun e w' => e = .returned (.bool true) ∧ Below w.heap.size w w' := by
  have K0 := Lib.hid (zero_k w)
  go_enter Try.func8, Try.ntmps8
  go_wp2_with (fail)
  refine (take_nil _).mono ?_
  rintro e w1 ⟨rfl, rfl⟩
  go_wp2_with (fail)
  refine (takenil_k K0.out).mono ?_
  rintro e w1 ⟨rfl, rfl⟩
  go_wp2_with (fail)
  refine (put_nil 8 _).mono ?_
  rintro e w1 ⟨rfl, rfl⟩
  go_wp2_with (fail)
  refine (drop_nil 8 _).mono ?_
  rintro e w1 ⟨rfl, hB1⟩
  have K1 := Lib.hid (K0.out.keep hB1)
  clear hB1
  go_wp2_with (fail)
  refine (has_nil 8 _).mono ?_
  rintro e w2 ⟨rfl, hB2⟩
  have K2 := Lib.hid (K1.out.keep hB2)
  clear hB2
  go_wp2_with (fail)
  refine (len_nil _).mono ?_
  rintro e w3 ⟨rfl, rfl⟩
  go_wp2_with (fail)
  refine (all_nil _).mono ?_
  rintro e w3 ⟨rfl, rfl⟩
  go_wp2_with (fail)
  refine (len_k K2.out).mono ?_
  rintro e w3 ⟨rfl, rfl⟩
  go_wp2_with (fail)
  refine (all_k K2.out).mono ?_
  rintro e w3 ⟨rfl, rfl⟩
  go_wp2_with (fail)
  refine (copy_nil _).mono ?_
  rintro e w3 ⟨rfl, rfl⟩
  go_wp2_with (fail)
  refine (put_zero _ _).mono ?_
  rintro e w3 ⟨rfl, rfl⟩
  go_wp2_with (fail)
  refine (put_k 8 K2.out (by decide) (by decide)).mono ?_
  rintro e w4 ⟨rfl, h4⟩
  rw [show (if (8 : Int) ∈ ([] : List Int) then ([] : List Int) else [8]) = [8] by decide] at h4
  have K4 := Lib.hid h4
  clear h4
  go_wp2_with (fail)
  refine (has_kk 8 K4.out (by decide)).mono ?_
  rintro e w5 ⟨rfl, h5⟩
  rw [show decide ((8 : Int) ∈ ([8] : List Int)) = true by decide]
  have K5 := Lib.hid h5
  clear h5
  go_wp2_with (fail)
  refine (len_k K5.out).mono ?_
  rintro e w6 ⟨rfl, rfl⟩
  obtain ⟨_, _, _, _, _, _, _, hW⟩ := K5.out
  have KW := Lib.hid hW
  clear hW
  go_wp2_with (fail)
  refine (known_any _).mono ?_
  rintro e w7 ⟨rfl, hk⟩
  have HK := Lib.hid hk
  clear hk
  go_wp2_with (fail)
  go_ret
  exact ⟨rfl, KW.out.trans (HK.out.mono KW.out.size)⟩
end Go.Proofs.Ytdekjfbaoaobeaa
