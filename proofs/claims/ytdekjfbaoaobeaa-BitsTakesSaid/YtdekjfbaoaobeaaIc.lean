/-
  slices.Collect, Sorted at addresses; Free's All: contracts.
-/
import Derived.Test.YtdekjfbaoaobeaaIs
import Derived.Test.YtdekjfbaoaobeaaJn
namespace Go.Proofs.Ytdekjfbaoaobeaa
open Go.RowKit Go.Shelf

theorem collect_v (v : Value) (l : List Int) (b g : Nat) (w : World) (hn : l.length ≤ 1000000) (hb : Blk w b #[v] 56) (hr : RowG w g v l) :
    Calls Try.prog 51 #[.func (.func 53) #[] #[.pointer (some ⟨b, 0, none⟩)]] w fun e W' => ∃ u, e = .returned u ∧ W'.ownsRow w.heap.size 39 1 u l.length (l.map (Value.int .u64)) ∧ Below w.heap.size w W' := by
  have HA := Lib.hid (callsIn_wide.1 (appendseq_in v l b g w hn hb hr))
  clear hb hr
  go_enter Try.func51, Try.ntmps51
  go_wp2_with (fail)
  refine HA.out.mono ?_
  rintro e w1 ⟨u, rfl, hown, hB⟩
  obtain ⟨a, n, c, rfl⟩ := own_slice hown
  have HO := Lib.hid hown
  have HB := Lib.hid hB
  clear hown hB
  go_wp2_with (fail)
  go_ret
  exact ⟨_, rfl, HO.out, HB.out⟩

theorem sorted_v (v : Value) (l : List Int) (b g : Nat) (w : World) (hn : l.length ≤ 1000000) (hb : Blk w b #[v] 56) (hr : RowG w g v l) :
    Calls Try.prog 41 #[.func (.func 53) #[] #[.pointer (some ⟨b, 0, none⟩)]] w fun e W' => ∃ u, e = .returned u ∧ W'.ownsRow w.heap.size 39 1 u (srt l).length ((srt l).map (Value.int .u64)) ∧ Below w.heap.size w W' := by
  have HA := Lib.hid (collect_v v l b g w hn hb hr)
  clear hb hr
  go_enter Try.func41, Try.ntmps41
  go_wp2_with (fail)
  refine HA.out.mono ?_
  rintro e w1 ⟨u, rfl, hown, hB⟩
  obtain ⟨a, n, c, rfl⟩ := own_slice hown
  have HB := Lib.hid hB
  have HS := Lib.hid (sort_own l _ _ w1 hown hn)
  have hob := own_base hown
  have HOB := Lib.hid hob
  clear hown hB hob
  go_wp2_with (fail)
  refine HS.out.mono ?_
  rintro e w2 ⟨rfl, ho2, hg2⟩
  have HO := Lib.hid ho2
  have HB2 := Lib.hid (HB.out.grown hg2 HB.out.size (fun r e => HOB.out r e))
  clear ho2 hg2
  go_wp2_with (fail)
  go_ret
  exact ⟨_, rfl, HO.out, HB2.out⟩

/-- All's answer, made by the call -/
def AllP (S : List Int) (e : Ending) (w w' : World) : Prop := ∃ u, e = .returned u ∧ w'.ownsRow w.heap.size 39 1 u (srt S).length ((srt S).map (Value.int .u64)) ∧ Below w.heap.size w w'

theorem srt_congr {a b : List Int} (h : a.Perm b) : srt a = srt b := by
  have hs : ∀ l : List Int, (srt l).Pairwise (fun x y => decide (x ≤ y) = true) := fun l => List.pairwise_mergeSort (by simp; omega) (by simp; omega) l
  exact List.Perm.eq_of_pairwise (by intro x y _ _ h1 h2; simp at h1 h2; omega) (hs a) (hs b) ((srt_perm a).trans (h.trans (srt_perm b).symm))

set_option maxHeartbeats 1000000 in
theorem fall_v (b : Nat) (v : Value) (l : List Int) (w : World) (h : SetV w b v l) (hn : l.length ≤ 1000000) :
    Calls Try.prog 25 #[.pointer (some ⟨b, 0, none⟩)] w fun e w' => AllP l e w w' := by
  have HL := Lib.hid (flen_v b v l w h.hv)
  by_cases h0 : l = []
  · subst h0
    clear h
    go_enter Try.func25, Try.ntmps25
    go_wp2_with (go_at_call 28; refine HL.out.mono ?_; rintro e w2 ⟨rfl, rfl⟩)
    go_ret
    exact ⟨_, rfl, by rw [show srt [] = [] from by simp [srt]]; exact World.ownsRow_nil _ _ _ _, Below.refl _ _⟩
  · have hl0 : ¬ ((l.length : Int) = 0) := by have := List.length_pos_iff.2 h0; omega
    have hc := h.hv.cell
    obtain ⟨g, hr⟩ := h.hv.rowG
    obtain ⟨a, c, rfl⟩ := h.hv.slice
    have HS := Lib.hid (sorted_v (.slice a l.length c) l w.heap.size g (w.alloc (.cells #[.slice a l.length c] 56)) hn (Blk.new w _ _) (hr.kept (by simp) (fun hg => Below.heap_alloc _ _ _ hg)))
    have HV := Lib.hid (callsIn_wide.1 (values_calls 5 a l.length c w))
    clear h h0 hr
    go_enter Try.func25, Try.ntmps25
    go_wp2_with (go_at_call 28; refine HL.out.mono ?_; rintro e w2 ⟨rfl, rfl⟩)
    refine HV.out.mono ?_
    rintro e w2 ⟨rfl, rfl⟩
    go_wp2_with (fail)
    refine HS.out.mono ?_
    rintro e w3 ⟨u, rfl, hown, hB⟩
    have HO := Lib.hid hown
    have HB := Lib.hid hB
    obtain ⟨a', n', c', rfl⟩ := own_slice hown
    clear hown hB
    go_wp2_with (fail)
    go_ret
    exact ⟨_, rfl, own_mono HO.out (by simp), ((Below.refl _ w).alloc (Nat.le_refl _) _).trans (HB.out.mono (by simp))⟩

/-- All of a set -/
theorem all_kk {B : Nat} {w0 w : World} {b : Nat} {S : List Int} (h : KSet B w0 b S w) (hn : S.length ≤ 1000) :
    Calls Try.prog 25 #[.pointer (some ⟨b, 0, none⟩)] w fun e w' => AllP S e w w' ∧ KSet B w0 b S w' := by
  have h0 := h
  obtain ⟨v, l, hs, hp, _⟩ := h
  refine (fall_v b v l w hs (by rw [hp.length_eq]; omega)).mono ?_
  rintro e w' ⟨u, rfl, ho, hB⟩
  rw [srt_congr hp] at ho
  exact ⟨⟨u, rfl, ho, hB⟩, h0.keep hB⟩
end Go.Proofs.Ytdekjfbaoaobeaa
