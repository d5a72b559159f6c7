/-
  leveelaw10.known, memory: contracts.
-/
import Derived.Test.YtefgahcadfmmoaaRon
namespace Go.Proofs.Ytefgahcadfmmoaa
open Go.RowKit
attribute [local go_sem] Oper.semAt_some
set_option linter.unusedVariables false

def l3 : List (Int × Int) := [(64, 1), (72, 2), (128, 3)]
theorem l3_ok : LOk AllL 32 l3 := by
  intro i hi
  match i, hi with
  | 0, _ => exact ⟨trivial, by decide⟩
  | 1, _ => exact ⟨trivial, by decide⟩
  | 2, _ => exact ⟨trivial, by decide⟩
def knS : Nat → Nat × Nat × Int × Int × Int
  | 0 => (0, 0, 0, 0, 0)
  | 1 => (1, 0, 1, 0, 0)
  | 2 => (2, 1, 2, 0, 0)
  | 3 => (2, 2, 2, 1, 0)
  | 4 => (2, 0, 2, 1, 1)
  | 5 => (3, 1, 3, 1, 1)
  | 6 => (3, 2, 3, 2, 1)
  | _ => (3, 0, 3, 2, 2)
/-- the state of known's run behind i steps -/
def KnI (W w : World) (rb mb i : Nat) (ov : Bool) : Prop := OneI W w rb mb 32 l3 0 (knS i).1 (knS i).2.1 ov 0 (knS i).2.2.1 (knS i).2.2.2.1 (knS i).2.2.2.2
theorem knT {i : Nat} (hi : i < 7) {k' ph' : Nat} {ov' : Bool} {st' fl' fe' : Int} (h : StepT l3 (knS i).1 (knS i).2.1 false (knS i).2.2.1 (knS i).2.2.2.1 (knS i).2.2.2.2 k' ph' ov' st' fl' fe') :
    ov' = decide (i = 6) ∧ k' = (knS (i + 1)).1 ∧ ph' = (knS (i + 1)).2.1 ∧ st' = (knS (i + 1)).2.2.1 ∧ fl' = (knS (i + 1)).2.2.2.1 ∧ fe' = (knS (i + 1)).2.2.2.2 := by
  have hg1 : gEnd l3 1 = False := by simp [gEnd, l3, eK]
  have hg2 : gEnd l3 2 = True := by simp [gEnd, l3, eK]
  have hg3 : gEnd l3 3 = True := by simp [gEnd, l3, eK]
  have hl : l3.length = 3 := rfl
  have hv := h.inv
  rw [hl] at hv
  clear h
  match i, hi with
  | 0, _ | 1, _ | 2, _ | 3, _ | 4, _ | 5, _ | 6, _ =>
    simp only [knS] at hv ⊢
    simpa [hg1, hg2, hg3, and_assoc, and_comm, and_left_comm] using hv
theorem knB : ∀ i, i < 7 → (knS i).2.2.1 ≤ 1000000 ∧ (knS i).2.2.2.1 ≤ 1000000 ∧ (knS i).2.2.2.2 ≤ 1000000
  | 0, _ | 1, _ | 2, _ | 3, _ | 4, _ | 5, _ | 6, _ => by simp [knS]
theorem kn_step {W w : World} {rb mb i : Nat} (h : KnI W w rb mb i false) (hi : i < 7) : Calls Try.prog 12 #[.pointer (some ⟨rb, 0, none⟩)] w fun e w' => e = .returned (.tuple #[.bool (decide (i = 6)), .int .i64 0]) ∧ KnI W w' rb mb (i + 1) (decide (i = 6)) := by
  have hb := knB i hi
  unfold KnI at h ⊢
  generalize hk1 : (knS i).1 = k at h
  generalize hk2 : (knS i).2.1 = ph at h
  generalize hk3 : (knS i).2.2.1 = st at h hb
  generalize hk4 : (knS i).2.2.2.1 = fl at h hb
  generalize hk5 : (knS i).2.2.2.2 = fe at h hb
  have hll : l3.length ≤ 1000000 := by simp [l3]
  refine (one_v h l3_ok (by omega) hll hb.1 hb.2.1 hb.2.2).mono ?_
  rintro e w' ⟨k', ph', ov', st', fl', fe', rfl, ht, hI⟩
  subst hk1 hk2 hk3 hk4 hk5
  obtain ⟨rfl, rfl, rfl, rfl, rfl, rfl⟩ := knT hi ht
  exact ⟨rfl, hI⟩
set_option maxRecDepth 100000 in
set_option maxHeartbeats 4000000 in
theorem known_v (w : World) : Calls Try.prog 10 #[] w fun e w' => e = .returned (.bool true) ∧ Below w.heap.size w w' := by
  have HN := Lib.hid (new_z 32 w (by decide) (by decide) (by decide))
  go_enter Try.func10, Try.ntmps10
  go_wp2_with (fail)
  refine HN.out.mono ?_
  rintro e w1 ⟨mb, S, rfl, hm, hS, hB⟩
  have HM := Lib.hid hm
  have HS := Lib.hid hS
  have HB := Lib.hid hB
  have HRn := Lib.hid (fun W1 v => OneI.new (W := w) (w1 := W1) (v := v) (mb := mb) (S := S) (l := l3) (lo := 0) (st := 0) (fl := 0) (fe := 0) (N := 32) (by decide))
  clear hm hS hB
  go_wp2_with (fail)
  refine (HRn.out _ _ (HM.out.below ((Below.refl _ w1).alloc (Nat.le_refl _) _)) HS.out (HB.out.alloc HB.out.size _) 0 (by simp [l3]) (World.ownsRow_lit w1 _ 3 (Nat.zero_le _) (by decide) rfl)).mono ?_
  rintro e w2 ⟨rb, rfl, hI, _⟩
  have HI := Lib.hid (show KnI w w2 rb mb 0 (decide (0 = 7)) from hI)
  clear hI HM HB HRn HN
  go_wp2_with (fail)
  go_loopw [4] (fun iv wr => ∃ k : Nat, k ≤ 7 ∧ iv = .int .i64 k ∧ KnI w wr rb mb k (decide (k = 7))) (fun iv _ => 7 - (intOf iv).toNat)
  case atStart => exact ⟨0, by omega, rfl, HI.out⟩
  case round =>
    obtain ⟨k, hk, rfl, hI⟩ := hrel
    by_cases hlt : k < 7
    · have h7 : decide (k = 7) = false := decide_eq_false (by omega)
      rw [h7] at hI
      have HSt := Lib.hid (kn_step hI hlt)
      have hb1 : (k : Int) < 7 := by omega
      obtain ⟨dk, hdk⟩ : ∃ dk, decide (k = 6) = dk := ⟨_, rfl⟩
      have hdi : ((k : Int) == 6) = dk := by rw [← hdk]; by_cases h : k = 6 <;> simp [h]; omega
      rw [hdk] at HSt
      have HDk := Lib.hid hdk
      have HLt := Lib.hid hlt
      clear hI h7 hlt hdk
      go_wp2_with (fail)
      refine HSt.out.mono ?_
      rintro e w3 ⟨rfl, hI⟩
      have HI3 := Lib.hid hI
      clear hI
      have hbn : (dk != dk) = false := by cases dk <;> rfl
      go_wp2_with (fail)
      go_roundw
      case rel => exact ⟨k + 1, HLt.out, by go_num, by rw [show decide (k + 1 = 7) = dk from by rw [← HDk.out]; simp]; exact HI3.out⟩
      case measure => have := HLt.out; simp [intOf]; omega
    · obtain rfl : k = 7 := by omega
      obtain ⟨⟨S, j, M, hR, hM, hIv, e1, e2, e3, e4, hS⟩, hrb, hB⟩ := hI
      have HLd := Lib.hid (load_m hM 128 (by decide) (by decide) (by rw [hIv.lv]; decide))
      have hval : M.vs.getD (128 / 8 : Int).toNat 0 = 3 := (hIv.v 16 (by decide) trivial).trans (by decide)
      rw [hval] at HLd
      have hFn : ∀ a, M.F a = [] := fun a => by
        have hj := hIv.p0 rfl (.inl (.inl rfl))
        rw [hIv.pe a trivial]
        split
        · rw [List.drop_eq_nil_of_le (by rw [List.length_take, hj]; omega)]
        · rfl
      have HF := Lib.hid hFn
      have HSg := Lib.hid hS
      have HB := Lib.hid hB
      simp only [knS] at e2 e3 e4
      have HE := Lib.hid (And.intro e2 (And.intro e3 e4))
      clear hR hM hIv hval hFn hS hB hrb e2 e3 e4
      go_wp2_with (fail)
      refine HLd.out.mono ?_
      rintro e w3 ⟨rfl, hm3, hk3⟩
      have HB3 := Lib.hid (HB.out.keeps (Nat.le_refl _) hk3 HSg.out)
      have HM3 := Lib.hid hm3
      have HSt := Lib.hid (stats_m hm3)
      clear hm3 hk3
      go_wp2_with (fail)
      refine HSt.out.mono ?_
      rintro e w4 ⟨rfl, hb4⟩
      have HM4 := Lib.hid (HM3.out.below hb4)
      have HB4 := Lib.hid (HB3.out.trans (hb4.mono HB3.out.size))
      clear hb4
      rw [HE.out.1, HE.out.2.1, HE.out.2.2]
      unfold statCells
      go_wp2_with (fail)
      refine (lines_m (HM4.out.below ((Below.refl _ w4).alloc (Nat.le_refl _) _))).mono ?_
      rintro e w5 ⟨u, xs, rfl, hks, hown, hb5⟩
      obtain rfl := hks.nil HF.out
      obtain ⟨a, n, cp, rfl⟩ := own_slice hown
      have hn0 : n = (srt []).length := own_len hown
      rw [srt_len] at hn0
      obtain rfl : n = 0 := hn0
      have HB5 := Lib.hid ((HB4.out.alloc HB4.out.size (.cells #[.int .u64 1, .int .u64 3, .int .u64 2, .int .u64 2] 37)).trans (hb5.mono (by have := HB4.out.size; simp; omega)))
      clear hown hb5 hks
      go_wp2_with (fail)
      go_ret
      exact ⟨rfl, HB5.out⟩
/-- a memory of so many lines -/
def MemoP (n : Int) (w : World) (e : Ending) (w' : World) : Prop :=
  (¬ (1 ≤ n ∧ n ≤ 16) ∧ e = .returned (.pointer none) ∧ w = w') ∨ ∃ (N : Nat) (mb : Nat) (S : Nat → Prop), 1 ≤ n ∧ n ≤ 16 ∧ (N : Int) = 8 * n ∧ e = .returned (.pointer (some ⟨mb, 0, none⟩)) ∧ MemP w' mb S (List.replicate N 0) (List.replicate N 0) (fun _ _ => 0) (fun _ => []) 0 0 0 0 ∧ (∀ i, S i → w.heap.size ≤ i) ∧ Below w.heap.size w w'
theorem memory_v (n : Int) (w : World) (hr : -9223372036854775808 ≤ n ∧ n ≤ 9223372036854775807) : Calls Try.prog 9 #[.int .i64 n] w (MemoP n w) := by
  by_cases h1 : n < 1
  · go_enter Try.func9, Try.ntmps9
    go_wp2_with (fail)
    go_ret
    exact .inl ⟨by omega, rfl, rfl⟩
  · by_cases h2 : 16 < n
    · go_enter Try.func9, Try.ntmps9
      go_wp2_with (fail)
      go_ret
      exact .inl ⟨by omega, rfl, rfl⟩
    · obtain ⟨m, rfl⟩ : ∃ m : Nat, n = (m : Int) := ⟨n.toNat, by omega⟩
      have hN := new_z (8 * m) w (by omega) (by omega) (by
        have : m = 1 ∨ m = 2 ∨ m = 3 ∨ m = 4 ∨ m = 5 ∨ m = 6 ∨ m = 7 ∨ m = 8 ∨ m = 9 ∨ m = 10 ∨ m = 11 ∨ m = 12 ∨ m = 13 ∨ m = 14 ∨ m = 15 ∨ m = 16 := by omega
        rcases this with rfl | rfl | rfl | rfl | rfl | rfl | rfl | rfl | rfl | rfl | rfl | rfl | rfl | rfl | rfl | rfl <;> decide)
      have hw : 64 * (m : Int) = ((8 * (8 * m) : Nat) : Int) := by omega
      have HN := Lib.hid hN
      have HW := Lib.hid hw
      have HR := Lib.hid (show 1 ≤ (m : Int) ∧ (m : Int) ≤ 16 from by omega)
      clear hN hw
      go_enter Try.func9, Try.ntmps9
      go_wp2_with (fail)
      rw [HW.out]
      refine HN.out.mono ?_
      rintro e w1 ⟨mb, S, rfl, hm, hS, hB⟩
      have HM := Lib.hid (And.intro hm (And.intro hS hB))
      clear hm hS hB
      go_wp2_with (fail)
      go_ret
      exact .inr ⟨8 * m, mb, S, HR.out.1, HR.out.2, by omega, rfl, HM.out.1, HM.out.2.1, HM.out.2.2⟩
end Go.Proofs.Ytefgahcadfmmoaa
