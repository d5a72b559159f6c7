/-
  container/heap Remove, on the row: a contract.
-/
import Derived.Test.YtdekjfbaoaobeaaHz
namespace Go.Proofs.Ytdekjfbaoaobeaa
open Go.RowKit

theorem swpL_id (l : List Int) (i : Nat) (hi : i < l.length) : swpL l i i = l := by
  unfold swpL
  apply List.ext_getElem?
  intro k
  simp only [List.getElem?_set, List.length_set]
  by_cases h : i = k
  · subst h; simp [hi]
  · simp [h]

set_option maxRecDepth 100000 in
set_option maxHeartbeats 2000000 in
theorem hremove_v (b : Nat) (v : Value) (l : List Int) (n i : Nat) (w : World) (h : HeapV w b v l) (hp : Hp l.length l) (hl : l.length = n + 1) (hn : n ≤ 900000) (hi : i ≤ n) :
    Calls Try.prog 40 #[.iface 62 (.pointer (some ⟨b, 0, none⟩)), .int .i64 i] w fun e w' => e = .returned (.iface 39 (.int .u64 (l.getD i 0))) ∧ PopP b v l (l.getD i 0) w w' := by
  obtain ⟨a1, c1, rfl⟩ := h.slice
  have H := Lib.hid h
  have HD := Lib.hid (show DownOk n (swpL l i n) i i from by have := hp.swapped i (by omega); rwa [hl, Nat.add_sub_cancel] at this)
  have HP := Lib.hid (show Hp n l from hp.less (by omega))
  have HL := Lib.hid hl
  have LS := Lib.hid (swap_b b _ l i n (by omega) (by omega) (by omega) w i n h rfl rfl)
  have q1 : IntKind.i64.wrap ((l.length : Int) - 1) = (n : Int) := by rw [hl, show ((n + 1 : Nat) : Int) - 1 = (n : Int) by omega]; exact IntWalk.i64_in _ (by omega)
  clear h hp hl
  by_cases hin : n = i
  · subst hin
    go_enter Try.func40, Try.ntmps40
    go_wp2_with (fail)
    rw [meth_len _ (by decide) w b _ H.out.cell]
    go_wp2_with (go_at_call 44; refine (len_v _ _ _ ⟨_, _, rfl⟩).mono ?_; rintro e w2 ⟨rfl, rfl⟩)
    have HSS := Lib.hid (show SameL n (swpL l n n) l from by rw [swpL_id l n (by have := HL.out; omega)]; exact .refl _ _)
    go_wp2_with (go_at_call 93; refine (pop_done_v HL.out (by omega) (by have := HL.out; omega) HSS.out H.out).mono ?_; rintro e w4 ⟨rfl, h4⟩; have HR := Lib.hid (pop_done HL.out (by have := HL.out; omega) HSS.out HP.out (HStep.refl _ _ _) h4); clear h4)
    go_ret
    exact ⟨rfl, HR.out⟩
  · have hin2 : ¬ ((n : Int) = (i : Int)) := by omega
    go_enter Try.func40, Try.ntmps40
    go_wp2_with (fail)
    rw [meth_len _ (by decide) w b _ H.out.cell]
    go_wp2_with (go_at_call 44; refine (len_v _ _ _ ⟨_, _, rfl⟩).mono ?_; rintro e w2 ⟨rfl, rfl⟩)
    rw [meth_swap _ (by decide) w b _ H.out.cell]
    go_wp2_with (go_at_call 92; refine LS.out.mono ?_; rintro e w2 ⟨rfl, hv2, hst2⟩; have HV2 := Lib.hid hv2; have HT2 := Lib.hid hst2; clear hv2 hst2)
    refine (down_v b _ _ n i w2 HV2.out (by rw [swpL_len, HL.out]; omega) HD.out (by omega)).mono ?_
    rintro e w3 ⟨m, l3, rfl, hv3, hs3, hm1, hm2, hst3⟩
    have HV3 := Lib.hid hv3
    have HS3 := Lib.hid hs3
    have HT3 := Lib.hid hst3
    cases m
    · have HU := Lib.hid (hm2 rfl (by omega))
      clear hv3 hs3 hm1 hm2 hst3
      go_wp2_with (go_at_call 50; refine (up_v b _ _ n i w3 HV3.out (by rw [HS3.out.len, swpL_len, HL.out]; omega) HU.out).mono ?_; rintro e w5 ⟨rfl, l5, hv5, hs5, hp5, hst5⟩; have HV5 := Lib.hid hv5; have HS5 := Lib.hid (HS3.out.trans hs5); have HP5 := Lib.hid hp5; have HT5 := Lib.hid hst5; clear hv5 hs5 hp5 hst5)
      go_wp2_with (go_at_call 93; refine (pop_done_v HL.out (by omega) (by have := HL.out; omega) HS5.out HV5.out).mono ?_; rintro e w4 ⟨rfl, h4⟩; have HR := Lib.hid (pop_done HL.out (by have := HL.out; omega) HS5.out HP5.out ((HT2.out.trans HT3.out).trans HT5.out) h4); clear h4)
      go_ret
      exact ⟨rfl, HR.out⟩
    · have HP3 := Lib.hid (hm1 rfl)
      clear hv3 hs3 hm1 hm2 hst3
      go_wp2_with (go_at_call 93; refine (pop_done_v HL.out (by omega) (by have := HL.out; omega) HS3.out HV3.out).mono ?_; rintro e w4 ⟨rfl, h4⟩; have HR := Lib.hid (pop_done HL.out (by have := HL.out; omega) HS3.out HP3.out (HT2.out.trans HT3.out) h4); clear h4)
      go_ret
      exact ⟨rfl, HR.out⟩
end Go.Proofs.Ytdekjfbaoaobeaa
