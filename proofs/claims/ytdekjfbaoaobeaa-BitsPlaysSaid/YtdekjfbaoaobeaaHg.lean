/-
  Free's place, Has, Len, Put, Take, Drop: contracts.
-/
import Derived.Test.YtdekjfbaoaobeaaHf
namespace Go.Proofs.Ytdekjfbaoaobeaa
open Go.RowKit

theorem HeapV.keep {w w' : World} {b : Nat} {v : Value} {l : List Int} (h : HeapV w b v l) (hB : Below w.heap.size w w') : HeapV w' b v l :=
  ⟨h.blk.kept (Keeps.of_below' hB) id, by
    refine ⟨h.row.1, ?_⟩
    rcases h.row.2 with h1 | ⟨g, cap, cur, h1, h2, h3, h4⟩
    · exact .inl h1
    · exact .inr ⟨g, cap, cur, h1, h2, by rw [hB.block g (Array.getElem?_eq_some_iff.1 h3).1]; exact h3, h4⟩, h.ne⟩
theorem belowN {B : Nat} {a w : World} (h : Below B a w) (n : Nat) : Below B a (w.drewN n) := ⟨h.os, h.tape, h.output, h.size, h.block⟩
theorem HStep.of_below {b : Nat} {v : Value} {w w' : World} (hB : Below w.heap.size w w') : HStep b v v w w' := ⟨(Keeps.of_below' hB).mono (fun _ _ h => h.elim), .inl rfl⟩

set_option maxRecDepth 100000 in
set_option maxHeartbeats 1000000 in
theorem place_v (b : Nat) (v : Value) (l : List Int) (a : Int) (w : World) (h : HeapV w b v l) (hn : l.length ≤ 1000000) :
    Calls Try.prog 39 #[.pointer (some ⟨b, 0, none⟩), .int .u64 a] w fun e w' => PlaceP l a e ∧ Below w.heap.size w w' := by
  have HI := Lib.hid (index_v b w.heap.size v l a (w.alloc (.cells #[.int .u64 a] 39)) (h.keep ((Below.refl _ w).alloc (Nat.le_refl _) _)) hn (by simp))
  have hc := h.cell
  have hc2 : (w.alloc (.cells #[.int .u64 a] 39)).cell? ⟨b, 0, none⟩ = some v := (h.keep ((Below.refl _ w).alloc (Nat.le_refl _) _)).cell
  clear h
  go_enter Try.func39, Try.ntmps39
  go_wp2_with (go_at_call 47; refine HI.out.mono ?_; rintro e w2 ⟨⟨r, rfl, hr⟩, q, rfl⟩; have HR := Lib.hid hr; clear hr)
  go_ret
  exact ⟨⟨_, rfl, HR.out⟩, belowN ((Below.refl _ w).alloc (Nat.le_refl _) _) q⟩

set_option maxHeartbeats 1000000 in
theorem has_v (b : Nat) (v : Value) (l : List Int) (a : Int) (w : World) (h : HeapV w b v l) (hn : l.length ≤ 1000000) :
    Calls Try.prog 27 #[.pointer (some ⟨b, 0, none⟩), .int .u64 a] w fun e w' => e = .returned (.bool (decide (a ∈ l))) ∧ Below w.heap.size w w' := by
  have HP := Lib.hid (place_v b v l a w h hn)
  clear h
  go_enter Try.func27, Try.ntmps27
  go_wp2_with (go_at_call 39; refine HP.out.mono ?_; rintro e w2 ⟨⟨r, rfl, hr⟩, hB⟩; have HR := Lib.hid hr; have HB := Lib.hid hB; clear hr hB)
  go_ret
  refine ⟨?_, HB.out⟩
  rcases HR.out with ⟨rfl, hm⟩ | ⟨i, rfl, hi, e⟩
  · simp [hm]
  · have : a ∈ l := by rw [← e]; simp [hi]
    simp [this]

theorem flen_v (b : Nat) (v : Value) (l : List Int) (w : World) (h : HeapV w b v l) :
    Calls Try.prog 28 #[.pointer (some ⟨b, 0, none⟩)] w fun e w' => e = .returned (.int .i64 l.length) ∧ w = w' := by
  have hc := h.cell
  obtain ⟨a1, c1, rfl⟩ := h.slice
  clear h
  go_enter Try.func28, Try.ntmps28
  go_wp2_with (go_at_call 44; refine (len_v _ _ _ ⟨_, _, rfl⟩).mono ?_; rintro e w2 ⟨rfl, rfl⟩)
  go_ret
  exact ⟨rfl, rfl⟩

/-- a set of addresses behind b -/
structure SetV (w : World) (b : Nat) (v : Value) (l : List Int) : Prop where
  hv : HeapV w b v l
  hp : Hp l.length l
  nd : l.Nodup
def AddP (b : Nat) (v : Value) (l : List Int) (x : Int) (w w' : World) : Prop := ∃ v' l', SetV w' b v' l' ∧ l'.Perm (if x ∈ l then l else x :: l) ∧ HStep b v v' w w'

set_option maxRecDepth 100000 in
set_option maxHeartbeats 1000000 in
theorem put_v (b : Nat) (v : Value) (l : List Int) (a : Int) (w : World) (h : SetV w b v l) (hn : l.length ≤ 900000) (ha : a ≠ 0) :
    Calls Try.prog 30 #[.pointer (some ⟨b, 0, none⟩), .int .u64 a] w fun e w' => e = .returned (.int .i64 0) ∧ AddP b v l a w w' := by
  have HP := Lib.hid (has_v b v l a w h.hv (by omega))
  have H := Lib.hid h
  clear h
  by_cases hm : a ∈ l
  · rw [decide_eq_true hm] at HP
    have HM := Lib.hid hm
    clear hm
    go_enter Try.func30, Try.ntmps30
    go_wp2_with (go_at_call 27; refine HP.out.mono ?_; rintro e w2 ⟨rfl, hB⟩; have HB := Lib.hid hB; clear hB)
    go_ret
    refine ⟨rfl, v, l, ⟨H.out.hv.keep HB.out, H.out.hp, H.out.nd⟩, by rw [if_pos HM.out], .of_below HB.out⟩
  · rw [decide_eq_false hm] at HP
    have HM := Lib.hid hm
    clear hm
    go_enter Try.func30, Try.ntmps30
    go_wp2_with (go_at_call 27; refine HP.out.mono ?_; rintro e w2 ⟨rfl, hB⟩; have HB := Lib.hid hB; clear hB)
    refine (hpush_v b v l a w2 (H.out.hv.keep HB.out) H.out.hp hn).mono ?_
    rintro e w3 ⟨rfl, h3⟩
    have HR := Lib.hid h3
    clear h3
    go_wp2_with (fail)
    go_ret
    obtain ⟨v', l', hv, hp, hpm, hst⟩ := HR.out
    exact ⟨rfl, v', l', ⟨hv, hp, hpm.nodup_iff.2 (List.nodup_cons.2 ⟨HM.out, H.out.nd⟩)⟩, by rw [if_neg HM.out]; exact hpm, (HStep.of_below HB.out).trans hst⟩

def GetP (b : Nat) (v : Value) (l : List Int) (x : Int) (w w' : World) : Prop := ∃ v' l', SetV w' b v' l' ∧ l.Perm (x :: l') ∧ HStep b v v' w w'
theorem GetP.of {b : Nat} {v : Value} {l : List Int} {x : Int} {w w' : World} (hn : l.Nodup) (h : PopP b v l x w w') : GetP b v l x w w' := by
  obtain ⟨v', l', hv, hp, hpm, hst⟩ := h
  exact ⟨v', l', ⟨hv, hp, (List.nodup_cons.1 (hpm.nodup_iff.1 hn)).2⟩, hpm, hst⟩

theorem take_none (b : Nat) (v : Value) (w : World) (h : SetV w b v []) :
    Calls Try.prog 26 #[.pointer (some ⟨b, 0, none⟩)] w fun e w' => e = .returned (.tuple #[.int .u64 0, .bool false]) ∧ w = w' := by
  have HL := Lib.hid (flen_v b v [] w h.hv)
  clear h
  go_enter Try.func26, Try.ntmps26
  go_wp2_with (go_at_call 28; refine HL.out.mono ?_; rintro e w2 ⟨rfl, rfl⟩)
  go_ret2
  exact ⟨rfl, rfl⟩

set_option maxRecDepth 100000 in
set_option maxHeartbeats 1000000 in
theorem take_some (b : Nat) (v : Value) (l : List Int) (w : World) (h : SetV w b v l) (hn : l.length ≤ 900000) (h0 : l ≠ []) :
    Calls Try.prog 26 #[.pointer (some ⟨b, 0, none⟩)] w fun e w' => ∃ x, e = .returned (.tuple #[.int .u64 x, .bool true]) ∧ x ∈ l ∧ (∀ y ∈ l, x ≤ y) ∧ GetP b v l x w w' := by
  obtain ⟨n, hl⟩ : ∃ n, l.length = n + 1 := ⟨l.length - 1, by have := List.length_pos_iff.2 h0; omega⟩
  have HL := Lib.hid (flen_v b v l w h.hv)
  have HO := Lib.hid (hpop_v b v l n w h.hv h.hp hl (by omega))
  have H := Lib.hid h
  have hl0 : ¬ ((l.length : Int) = 0) := by omega
  obtain ⟨x, hx⟩ : ∃ x, l.getD 0 0 = x := ⟨_, rfl⟩
  rw [hx] at HO
  have HX := Lib.hid hx
  have HLN := Lib.hid hl
  have ta := assert_addr x
  clear h hl hx h0
  go_enter Try.func26, Try.ntmps26
  go_wp2_with (go_at_call 28; refine HL.out.mono ?_; rintro e w2 ⟨rfl, rfl⟩)
  refine HO.out.mono ?_
  rintro e w3 ⟨rfl, h3⟩
  have HR := Lib.hid h3
  clear h3
  go_wp2_with (fail)
  go_ret2
  refine ⟨x, rfl, ?_, fun y hy => ?_, GetP.of H.out.nd HR.out⟩
  · rw [← HX.out]; have := HLN.out; simp [show 0 < l.length by omega]
  · obtain ⟨i, hi, e⟩ := List.getElem_of_mem hy
    have := H.out.hp.root i hi
    rw [HX.out] at this
    simp [hi] at this; rw [e] at this; exact this

theorem place_in (b : Nat) (v : Value) (l : List Int) (a : Int) (w : World) (h : HeapV w b v l) (hn : l.length ≤ 1000000) (hm : a ∈ l) :
    Calls Try.prog 39 #[.pointer (some ⟨b, 0, none⟩), .int .u64 a] w fun e w' => (∃ i : Nat, e = .returned (.int .i64 i) ∧ i < l.length ∧ l.getD i 0 = a) ∧ Below w.heap.size w w' :=
  (place_v b v l a w h hn).mono fun _ _ ⟨⟨r, he, hr⟩, hB⟩ => ⟨by
    rcases hr with ⟨_, hr⟩ | ⟨i, rfl, hi, e⟩
    · exact absurd hm hr
    · exact ⟨i, he, hi, e⟩, hB⟩
theorem place_out (b : Nat) (v : Value) (l : List Int) (a : Int) (w : World) (h : HeapV w b v l) (hn : l.length ≤ 1000000) (hm : a ∉ l) :
    Calls Try.prog 39 #[.pointer (some ⟨b, 0, none⟩), .int .u64 a] w fun e w' => e = .returned (.int .i64 (-1)) ∧ Below w.heap.size w w' :=
  (place_v b v l a w h hn).mono fun _ _ ⟨⟨r, he, hr⟩, hB⟩ => ⟨by
    rcases hr with ⟨rfl, _⟩ | ⟨i, rfl, hi, e⟩
    · exact he
    · exact absurd (by rw [← e]; simp [hi]) hm, hB⟩

set_option maxRecDepth 100000 in
set_option maxHeartbeats 1000000 in
theorem drop_v (b : Nat) (v : Value) (l : List Int) (a : Int) (w : World) (h : SetV w b v l) (hn : l.length ≤ 900000) :
    Calls Try.prog 24 #[.pointer (some ⟨b, 0, none⟩), .int .u64 a] w fun e w' => e = .returned (.bool (decide (a ∈ l))) ∧ ∃ v' l', SetV w' b v' l' ∧ l'.Perm (l.erase a) ∧ HStep b v v' w w' := by
  have H := Lib.hid h
  by_cases hm : a ∈ l
  · have HP := Lib.hid (place_in b v l a w h.hv (by omega) hm)
    have HM := Lib.hid hm
    rw [decide_eq_true hm]
    clear h hm
    go_enter Try.func24, Try.ntmps24
    go_wp2_with (fail)
    refine HP.out.mono ?_
    rintro e w2 ⟨⟨i, rfl, hi, hx⟩, hB⟩
    have HX := Lib.hid hx
    have HI := Lib.hid hi
    have HB := Lib.hid hB
    have hi0 : ¬ (i : Int) < 0 := by omega
    clear hi hx hB
    go_wp2_with (fail)
    refine (hremove_v b v l (l.length - 1) i w2 (H.out.hv.keep HB.out) H.out.hp (by have := HI.out; omega) (by omega) (by have := HI.out; omega)).mono ?_
    rintro e w3 ⟨rfl, h3⟩
    rw [HX.out] at h3
    have HR := Lib.hid (GetP.of H.out.nd h3)
    clear h3
    go_wp2_with (fail)
    go_ret
    obtain ⟨v', l', hv, hpm, hst⟩ := HR.out
    exact ⟨rfl, v', l', hv, ((List.perm_cons_erase HM.out).symm.trans hpm).cons_inv.symm, (HStep.of_below HB.out).trans hst⟩
  · have HP := Lib.hid (place_out b v l a w h.hv (by omega) hm)
    have HM := Lib.hid hm
    rw [decide_eq_false hm]
    clear h hm
    go_enter Try.func24, Try.ntmps24
    go_wp2_with (go_at_call 39; refine HP.out.mono ?_; rintro e w2 ⟨rfl, hB⟩; have HB := Lib.hid hB; clear hB)
    go_ret
    exact ⟨rfl, v, l, ⟨H.out.hv.keep HB.out, H.out.hp, H.out.nd⟩, by rw [List.erase_of_not_mem HM.out], .of_below HB.out⟩
end Go.Proofs.Ytdekjfbaoaobeaa
