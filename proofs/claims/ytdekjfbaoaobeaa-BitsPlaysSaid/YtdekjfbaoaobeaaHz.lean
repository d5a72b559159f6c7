/-
  container/heap Push, Pop, Remove, on the row: contracts.
-/
import Derived.Test.YtdekjfbaoaobeaaHo
namespace Go.Proofs.Ytdekjfbaoaobeaa
open Go.RowKit

def PutP (b : Nat) (v : Value) (l : List Int) (x : Int) (w w' : World) : Prop := ∃ v' l', HeapV w' b v' l' ∧ Hp l'.length l' ∧ l'.Perm (x :: l) ∧ HStep b v v' w w'
def PopP (b : Nat) (v : Value) (l : List Int) (x : Int) (w w' : World) : Prop := ∃ v' l', HeapV w' b v' l' ∧ Hp l'.length l' ∧ l.Perm (x :: l') ∧ HStep b v v' w w'

set_option maxRecDepth 100000 in
set_option maxHeartbeats 2000000 in
theorem hpush_v (b : Nat) (v : Value) (l : List Int) (x : Int) (w : World) (h : HeapV w b v l) (hp : Hp l.length l) (hn : l.length ≤ 900000) :
    Calls Try.prog 45 #[.iface 62 (.pointer (some ⟨b, 0, none⟩)), .iface 39 (.int .u64 x)] w fun e w' => e = .returned (.tuple #[]) ∧ PutP b v l x w w' := by
  have HPush := Lib.hid (push_v b v l x w h (by omega))
  have HU := Lib.hid (hp.pushed x)
  clear h hp
  go_enter Try.func45, Try.ntmps45
  go_wp2_with (go_at_call 94; refine HPush.out.mono ?_; rintro e w1 ⟨rfl, v1, hv1, hst1⟩; have HV1 := Lib.hid hv1; have HT1 := Lib.hid hst1; clear hv1 hst1)
  obtain ⟨a1, c1, rfl⟩ := HV1.out.slice
  rw [meth_len _ (by decide) w1 b _ HV1.out.cell]
  have q1 : IntKind.i64.wrap (((l ++ [x]).length : Int) - 1) = (l.length : Int) := by rw [show ((l ++ [x]).length : Int) - 1 = (l.length : Int) by simp]; exact IntWalk.i64_in _ (by omega)
  go_wp2_with (go_at_call 44; refine (len_v _ _ _ ⟨_, _, rfl⟩).mono ?_; rintro e w2 ⟨rfl, rfl⟩)
  refine (up_v b _ _ _ _ w1 HV1.out (by simp; omega) HU.out).mono ?_
  rintro e w3 ⟨rfl, l3, hv3, hs3, hp3, hst3⟩
  have HR := Lib.hid (show PutP b v l x w w3 from ⟨_, l3, hv3, by rw [hs3.len]; simpa using hp3, hs3.perm.trans (List.perm_append_singleton _ _), HT1.out.trans hst3⟩)
  clear hv3 hs3 hp3 hst3
  go_wp2_with (fail)
  go_end0
  exact ⟨rfl, HR.out⟩

/-- what is left once the last one is struck -/
theorem pop_done {n b i : Nat} {v : Value} {l l2 : List Int} {w w1 w2 : World} (hl : l.length = n + 1) (hi : i < l.length) (hs : SameL n (swpL l i n) l2) (hp : Hp n l2) (hst : HStep b v v w w1)
    (hpop : ∃ v', HeapV w2 b v' (l2.take n) ∧ HStep b v v' w1 w2) : PopP b v l (l.getD i 0) w w2 := by
  obtain ⟨v', hv, ht⟩ := hpop
  have hlen : l2.length = n + 1 := by rw [hs.len, swpL_len, hl]
  have h1 := last_split l2 n hlen
  have h2 : l2.getD n 0 = l.getD i 0 := by rw [hs.rest n (Nat.le_refl _), swpL_get _ _ _ _ hi (by omega), if_pos rfl]
  rw [h2] at h1
  refine ⟨v', l2.take n, hv, hp.take (by omega), ?_, hst.trans ht⟩
  have h3 : l2.Perm l := hs.perm.trans (swpL_perm _ _ _ hi (by omega))
  rw [h1] at h3
  exact h3.symm.trans (List.perm_append_singleton _ _)
theorem pop_done_v {n b i : Nat} {v : Value} {l l2 : List Int} {w1 : World} (hl : l.length = n + 1) (hn : n ≤ 1000000) (hi : i < l.length) (hs : SameL n (swpL l i n) l2) (hv : HeapV w1 b v l2) :
    Calls Try.prog 93 #[.pointer (some ⟨b, 0, none⟩)] w1 fun e w' => e = .returned (.iface 39 (.int .u64 (l.getD i 0))) ∧ ∃ v', HeapV w' b v' (l2.take n) ∧ HStep b v v' w1 w' := by
  have hlen : l2.length = n + 1 := by rw [hs.len, swpL_len, hl]
  have h1 := last_split l2 n hlen
  have h2 : l2.getD n 0 = l.getD i 0 := by rw [hs.rest n (Nat.le_refl _), swpL_get _ _ _ _ hi (by omega), if_pos rfl]
  rw [h2] at h1
  rw [h1] at hv
  exact pop_v b v _ _ w1 hv (by simp; omega)

set_option maxRecDepth 100000 in
set_option maxHeartbeats 2000000 in
theorem hpop_v (b : Nat) (v : Value) (l : List Int) (n : Nat) (w : World) (h : HeapV w b v l) (hp : Hp l.length l) (hl : l.length = n + 1) (hn : n ≤ 900000) :
    Calls Try.prog 43 #[.iface 62 (.pointer (some ⟨b, 0, none⟩))] w fun e w' => e = .returned (.iface 39 (.int .u64 (l.getD 0 0))) ∧ PopP b v l (l.getD 0 0) w w' := by
  obtain ⟨a1, c1, rfl⟩ := h.slice
  have H := Lib.hid h
  have HD := Lib.hid (show DownOk n (swpL l 0 n) 0 0 from by have := hp.swapped 0 (by omega); rwa [hl, Nat.add_sub_cancel] at this)
  have HL := Lib.hid hl
  have LS := Lib.hid (swap_b b _ l 0 n (by omega) (by omega) (by omega) w 0 n h rfl rfl)
  have q1 : IntKind.i64.wrap ((l.length : Int) - 1) = (n : Int) := by rw [hl, show ((n + 1 : Nat) : Int) - 1 = (n : Int) by omega]; exact IntWalk.i64_in _ (by omega)
  clear h hp hl
  go_enter Try.func43, Try.ntmps43
  go_wp2_with (fail)
  rw [meth_len _ (by decide) w b _ H.out.cell]
  go_wp2_with (go_at_call 44; refine (len_v _ _ _ ⟨_, _, rfl⟩).mono ?_; rintro e w2 ⟨rfl, rfl⟩)
  rw [meth_swap _ (by decide) w b _ H.out.cell]
  go_wp2_with (go_at_call 92; refine LS.out.mono ?_; rintro e w2 ⟨rfl, hv2, hst2⟩; have HV2 := Lib.hid hv2; have HT2 := Lib.hid hst2; clear hv2 hst2)
  refine (down_v b _ _ n 0 w2 HV2.out (by rw [swpL_len, HL.out]; omega) HD.out (by omega)).mono ?_
  rintro e w3 ⟨m, l3, rfl, hv3, hs3, hm1, hm2, hst3⟩
  have HP3 := Lib.hid (show Hp n l3 from by
    cases m
    · by_cases h0 : 0 < n
      · exact (hm2 rfl h0).stop (.inl rfl)
      · intro k hk; omega
    · exact hm1 rfl)
  have HV3 := Lib.hid hv3
  have HS3 := Lib.hid hs3
  have HT3 := Lib.hid hst3
  clear hv3 hs3 hm1 hm2 hst3
  go_wp2_with (go_at_call 93; refine (pop_done_v HL.out (by omega) (by have := HL.out; omega) HS3.out HV3.out).mono ?_; rintro e w4 ⟨rfl, h4⟩; have HR := Lib.hid (pop_done HL.out (by have := HL.out; omega) HS3.out HP3.out (HT2.out.trans HT3.out) h4); clear h4)
  go_ret
  exact ⟨rfl, HR.out⟩
end Go.Proofs.Ytdekjfbaoaobeaa
