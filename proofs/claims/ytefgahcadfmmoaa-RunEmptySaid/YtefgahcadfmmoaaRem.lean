/-
  The law RunEmpty.
-/
import Derived.Test.YtefgahcadfmmoaaRwi
namespace Go.Proofs.Ytefgahcadfmmoaa
open Go.RowKit
attribute [local go_sem] Oper.semAt_some
set_option linter.unusedVariables false

section
variable {w : World} {mb : Nat} {S : Nat → Prop} {M : MSt}
/-- a run of no stores, its first step -/
theorem empty_step {rb : Nat} {c : Nat} {a : Option Addr} {cp : Nat} (hc : c ≤ 64) (hm : MemD w mb S M) (hb : Blk w rb (rnCells (rnNew rb (some ⟨mb, 0, none⟩) c (.slice a 0 cp))) 41) (hs : ¬ S rb) (hst : M.st ≤ 1000000) (hfl : M.fl ≤ 1000000) (hfe : M.fe ≤ 1000000) :
    Calls Try.prog 12 #[.pointer (some ⟨rb, 0, none⟩)] w fun e w' => e = .returned (.tuple #[.bool true, .int .i64 0]) ∧ ∃ S', MemD w' mb S' M ∧ (∀ i, S' i → S i ∨ w.heap.size ≤ i) ∧ Keeps (fun i => i = rb ∨ S i) w w' := by
  refine (step_v w rb mb S [] c 0 0 false M ⟨⟨_, a, cp, hb, rfl, rfl, rfl, rfl, rfl, rfl, rfl, hs, fun h => absurd h (by decide)⟩⟩ hm hc (by decide) (fun i h => absurd h (by simp)) (Nat.le_refl _) (fun _ _ h => absurd h (by simp)) (by omega) (fun h => absurd h (by omega)) hst hfl hfe).mono ?_
  rintro e w' ⟨dd, k', ph', ov', M', S', rfl, hr, hR, hM, hsub, hk⟩
  cases hr with
  | done => exact ⟨rfl, S', hM, hsub, hk⟩
  | store _ _ h => exact absurd h (by simp)
end
def EmQ (w : World) (e : Ending) (w' : World) : Prop := e = .returned (.bool true) ∧ Below w.heap.size w w'
set_option maxRecDepth 100000 in
set_option maxHeartbeats 40000000 in
theorem rempty_v (n c p0 p1 : Int) (w : World) (hr : -9223372036854775808 ≤ n ∧ n ≤ 9223372036854775807) (hc : -9223372036854775808 ≤ c ∧ c ≤ 9223372036854775807) (hp : 0 ≤ p0 ∧ p0 ≤ 18446744073709551615) (hp1 : 0 ≤ p1 ∧ p1 ≤ 18446744073709551615) :
    Calls Try.prog 3 #[.int .i64 n, .int .i64 c, .agg #[.int .u64 p0, .int .u64 p1]] w (EmQ w) := by
  have hB0 : Below w.heap.size w (w.alloc (.cells #[.int .u64 p0, .int .u64 p1] 25)) := (Below.refl _ _).alloc (Nat.le_refl _) _
  have HB0 := Lib.hid hB0
  have HBx := Lib.hid (Blk.new w #[.int .u64 p0, .int .u64 p1] 25)
  obtain ⟨w0, hw0⟩ : ∃ w0, w.alloc (.cells #[.int .u64 p0, .int .u64 p1] 25) = w0 := ⟨_, rfl⟩
  obtain ⟨xb, hxb⟩ : ∃ xb, w.heap.size = xb := ⟨_, rfl⟩
  rw [hw0] at HB0 HBx
  rw [hxb] at HBx
  have HW0 := Lib.hid hw0
  have HM := Lib.hid (memory_v n w0 hr)
  have HP := Lib.hid (And.intro hp hp1)
  have HXb := Lib.hid hxb
  clear hp hp1 hB0 hw0 hxb
  go_enter Try.func3, Try.ntmps3
  go_wp2_with (fail)
  rw [HW0.out]
  refine HM.out.mono ?_
  rintro e w1 (⟨hn, rfl, rfl⟩ | ⟨N, mb, S, h1, h2, hNn, rfl, hm, hS, hB1⟩)
  · have HK := Lib.hid (known_v w0)
    go_wp2_with (fail)
    refine HK.out.mono ?_
    rintro e w2 ⟨rfl, hB⟩
    have HB := Lib.hid (HB0.out.trans (hB.mono HB0.out.size))
    clear hB
    go_wp2_with (fail)
    go_ret
    exact ⟨rfl, HB.out⟩
  · have HMm := Lib.hid hm
    have HS := Lib.hid hS
    have HB1 := Lib.hid (HB0.out.trans (hB1.mono HB0.out.size))
    have HB01 := Lib.hid hB1
    have HNn := Lib.hid (And.intro hNn (And.intro h1 h2))
    have HRn := Lib.hid (rnew_v (some ⟨mb, 0, none⟩) c (.slice none 0 0) [] w1 (World.ownsRow_nil _ _ _ _) (by decide))
    clear hm hS hB1 hNn h1 h2
    by_cases hci : 0 ≤ c ∧ c ≤ 64
    · obtain ⟨cn, rfl⟩ : ∃ cn : Nat, c = (cn : Int) := ⟨c.toNat, by omega⟩
      have hcl : (cn : Int) ≤ 64 := hci.2
      have hc0 : (0 : Int) ≤ (cn : Int) := hci.1
      have HCi := Lib.hid hci
      clear hci hc
      go_wp2_with (fail)
      refine HRn.out.mono ?_
      rintro e w2 ⟨rb, sl, rfl, hb2, hown, hrb, hne, hB2⟩
      obtain ⟨a, nn, cp, rfl⟩ := own_slice hown
      obtain rfl : nn = 0 := own_len hown
      have hm2 : MemD w2 mb S ⟨List.replicate N 0, List.replicate N 0, fun _ _ => 0, fun _ => [], 0, 0, 0, 0⟩ := HMm.out.below hB2
      have HSt := Lib.hid (empty_step (by omega) hm2 hb2 (fun h => by have := HMm.out.lt h; omega) (by show (0 : Int) ≤ 1000000; decide) (by show (0 : Int) ≤ 1000000; decide) (by show (0 : Int) ≤ 1000000; decide))
      have HB2 := Lib.hid (HB1.out.trans (hB2.mono HB1.out.size))
      have HRb := Lib.hid (show w.heap.size < rb ∧ xb < rb from ⟨by have := HBx.out.lt; have := HXb.out; have := HB01.out.size; omega, by have := HBx.out.lt; have := HB01.out.size; omega⟩)
      have HBx2 := Lib.hid ((HBx.out.kept (Keeps.of_below' HB01.out) (fun h => h)).kept (Keeps.of_below' hB2) (fun h => h))
      clear hb2 hown hrb hne hB2 hm2
      go_wp2_with (fail)
      refine HSt.out.mono ?_
      rintro e w3 ⟨rfl, S', hm3, hsub, hk3⟩
      have HM3 := Lib.hid hm3
      have HS3 := Lib.hid (show ∀ i, S' i → w.heap.size ≤ i from fun i hi => by
        rcases hsub i hi with h | h
        · have := HS.out i h; have := HB0.out.size; omega
        · have := HB2.out.size; omega)
      have HB3 := Lib.hid (HB2.out.keeps (Nat.le_refl _) hk3 (fun i hi => by
        rcases hi with h | h
        · have := HRb.out.1; omega
        · have := HS.out i h; have := HB0.out.size; omega))
      have HBx3 := Lib.hid (HBx2.out.kept hk3 (fun hi => by
        rcases hi with h | h
        · have := HRb.out; omega
        · have := HS.out _ h; have := HBx.out.lt; omega))
      clear hm3 hsub hk3
      have d0 : w3.cell? ⟨xb, 0, none⟩ = some (.int .u64 p0) := HBx3.out.cell 0
      have d1 : w3.cell? ⟨xb, 1, none⟩ = some (.int .u64 p1) := HBx3.out.cell 1
      have hxb := HXb.out
      have hn1 := HNn.out.2.1
      have hn2 := HNn.out.2.2
      have hEa : EntsAt (w3.alloc (.cells #[.int .u64 p0, .int .u64 p1] 25)) w3.heap.size 0 [(p0, p1)] := fun i hi => by
        obtain rfl : i = 0 := by simpa using hi
        have hb := Blk.new w3 #[.int .u64 p0, .int .u64 p1] 25
        exact ⟨hb.cell 0, hb.cell 1⟩
      have HWi := Lib.hid (within_v N (by have := HNn.out; omega) (some ⟨w3.heap.size, 0, none⟩) [(p0, p1)] 1 (w3.alloc (.cells #[.int .u64 p0, .int .u64 p1] 25)) (fun _ => ⟨_, _, rfl, by simp, hEa⟩) (by simp) (fun i hi => by
        obtain rfl : i = 0 := by simpa using hi
        exact HP.out.1))
      have HNe := Lib.hid (show 64 * n = ((8 * N : Nat) : Int) from by have := HNn.out; omega)
      have HLo := Lib.hid (withinL_ok N (by have := HNn.out; omega) [(p0, p1)] (fun i hi => by
        obtain rfl : i = 0 := by simpa using hi
        exact ⟨HP.out.1.1, HP.out.2⟩))
      clear hEa
      go_wp2_with (fail)
      rw [HNe.out]
      refine HWi.out.mono ?_
      rintro e w4 ⟨v, rfl, hrow, hB4⟩
      have hB34 : Below w3.heap.size w3 w4 := ((Below.refl _ w3).alloc (Nat.le_refl _) _).trans (hB4.mono (by simp))
      have hm4 : MemP w4 mb S' (List.replicate N 0) (List.replicate N 0) (fun _ _ => 0) (fun _ => []) 0 0 0 0 := MemP.below HM3.out hB34
      have HNw := Lib.hid (OneI.new (W := w) (l := withinL N [(p0, p1)]) (by have := HNn.out; omega) hm4 HS3.out (HB3.out.trans (hB34.mono HB3.out.size)) cn (by rw [withinL_len]; simp) (by have := own_mono hrow (Nat.zero_le _); exact this))
      clear hrow hB4 hB34 hm4
      go_wp2_with (fail)
      refine HNw.out.mono ?_
      rintro e w5 ⟨rb2, rfl, hI, _⟩
      have HSt2 := Lib.hid (one_v hI HLo.out (by omega) (by rw [withinL_len]; simp) (by decide) (by decide) (by decide))
      clear hI
      go_wp2_with (fail)
      refine HSt2.out.mono ?_
      rintro e w6 ⟨k', ph', ov', st', fl', fe', rfl, ht, hI⟩
      have hinv := ht.inv
      rw [withinL_len] at hinv
      simp at hinv
      obtain ⟨rfl, _, rfl, rfl, rfl, rfl⟩ := hinv
      obtain ⟨⟨S6, j6, M6, _, hM6, _, e1, e2, e3, e4, _⟩, _, hB6⟩ := hI
      have HB6 := Lib.hid hB6
      have HM6 := Lib.hid hM6
      have HE := Lib.hid (And.intro e1 (And.intro e2 (And.intro e3 e4)))
      have HS6 := Lib.hid (fun W (hB : Below w6.heap.size w6 W) => stats_m (MemP.below hM6 hB))
      clear ht hB6 hM6 e1 e2 e3 e4 hn1 hn2 d0 d1 hxb
      go_wp2_with (fail)
      have hf1 : ∀ w : World, (Instr.field 37 (.agg #[.int .u64 0, .int .u64 1, .int .u64 0, .int .u64 0]) 1).run Try.prog w = .ok (.int .u64 1) w := fun _ => by kernel_rfl
      have hf2 : ∀ w : World, (Instr.field 37 (.agg #[.int .u64 0, .int .u64 1, .int .u64 0, .int .u64 0]) 2).run Try.prog w = .ok (.int .u64 0) w := fun _ => by kernel_rfl
      have hf3 : ∀ w : World, (Instr.field 37 (.agg #[.int .u64 0, .int .u64 1, .int .u64 0, .int .u64 0]) 3).run Try.prog w = .ok (.int .u64 0) w := fun _ => by kernel_rfl
      refine (HS6.out _ (Below.refl _ _)).mono ?_
      rintro e w7 ⟨rfl, hB7⟩
      rw [HE.out.1, HE.out.2.1, HE.out.2.2.1, HE.out.2.2.2]
      unfold statCells
      have HB7 := Lib.hid hB7
      clear hB7
      go_wp2_with (fail)
      refine (HS6.out _ HB7.out).mono ?_
      rintro e w8 ⟨rfl, hB8⟩
      rw [HE.out.1, HE.out.2.1, HE.out.2.2.1, HE.out.2.2.2]
      unfold statCells
      have HB8 := Lib.hid (HB7.out.trans (hB8.mono HB7.out.size))
      clear hB8
      go_wp2_with (fail)
      refine (HS6.out _ HB8.out).mono ?_
      rintro e w9 ⟨rfl, hB9⟩
      rw [HE.out.1, HE.out.2.1, HE.out.2.2.1, HE.out.2.2.2]
      unfold statCells
      have HB9 := Lib.hid (HB6.out.trans ((HB8.out.trans (hB9.mono HB8.out.size)).mono HB6.out.size))
      have HK := Lib.hid (known_v w9)
      clear hB9
      go_wp2_with (fail)
      refine HK.out.mono ?_
      rintro e w10 ⟨rfl, hB10⟩
      have HB10 := Lib.hid (HB9.out.trans (hB10.mono HB9.out.size))
      clear hB10
      go_wp2_with (fail)
      go_ret
      exact ⟨rfl, HB10.out⟩
    · have hco : c < 0 ∨ 64 < c := by omega
      have HCo := Lib.hid hco
      by_cases hc0 : c < 0
      · clear hci hco hc
        go_wp2_with (fail)
        refine HRn.out.mono ?_
        rintro e w2 ⟨rb, sl, rfl, hb2, hown, hrb, hne, hB2⟩
        obtain ⟨a, nn, cp, rfl⟩ := own_slice hown
        obtain rfl : nn = 0 := own_len hown
        have hm2 : MemP w2 mb S (List.replicate N 0) (List.replicate N 0) (fun _ _ => 0) (fun _ => []) 0 0 0 0 := HMm.out.below hB2
        have HSt := Lib.hid (rstep_client w2 rb _ 30 mb S c _ _ _ _ _ _ _ _ hb2 rfl rfl rfl rfl HCo.out hm2)
        have HM2 := Lib.hid hm2
        have HB2 := Lib.hid (HB1.out.trans (hB2.mono HB1.out.size))
        have HRb := Lib.hid (show w.heap.size < rb ∧ xb < rb ∧ w1.heap.size ≤ rb from ⟨by have := HBx.out.lt; have := HXb.out; have := HB01.out.size; omega, by have := HBx.out.lt; have := HB01.out.size; omega, hrb⟩)
        have HBx2 := Lib.hid ((HBx.out.kept (Keeps.of_below' HB01.out) (fun h => h)).kept (Keeps.of_below' hB2) (fun h => h))
        clear hb2 hown hrb hne hB2 hm2
        go_wp2_with (fail)
        refine HSt.out.mono ?_
        rintro e w3 ⟨rfl, hk3, _⟩
        have hm3 := HM2.out.kept hk3 (fun i hi e => by have := HMm.out.lt hi; have := HRb.out; omega)
        have HM3 := Lib.hid hm3
        have HB3 := Lib.hid (HB2.out.keeps (Nat.le_refl _) hk3 (fun i hi => by have := HRb.out.1; omega))
        have HBx3 := Lib.hid (HBx2.out.kept hk3 (fun hi => by have := HRb.out; omega))
        clear hm3 hk3
        have d0 : w3.cell? ⟨xb, 0, none⟩ = some (.int .u64 p0) := HBx3.out.cell 0
        have d1 : w3.cell? ⟨xb, 1, none⟩ = some (.int .u64 p1) := HBx3.out.cell 1
        have hxb := HXb.out
        have hn1 := HNn.out.2.1
        have hn2 := HNn.out.2.2
        have hEa : EntsAt (w3.alloc (.cells #[.int .u64 p0, .int .u64 p1] 25)) w3.heap.size 0 [(p0, p1)] := fun i hi => by
          obtain rfl : i = 0 := by simpa using hi
          have hb := Blk.new w3 #[.int .u64 p0, .int .u64 p1] 25
          exact ⟨hb.cell 0, hb.cell 1⟩
        have HWi := Lib.hid (within_v N (by have := HNn.out; omega) (some ⟨w3.heap.size, 0, none⟩) [(p0, p1)] 1 (w3.alloc (.cells #[.int .u64 p0, .int .u64 p1] 25)) (fun _ => ⟨_, _, rfl, by simp, hEa⟩) (by simp) (fun i hi => by
          obtain rfl : i = 0 := by simpa using hi
          exact HP.out.1))
        have HNe := Lib.hid (show 64 * n = ((8 * N : Nat) : Int) from by have := HNn.out; omega)
        clear hEa
        go_wp2_with (fail)
        rw [HNe.out]
        refine HWi.out.mono ?_
        rintro e w4 ⟨v, rfl, hrow, hB4⟩
        have hB34 : Below w3.heap.size w3 w4 := ((Below.refl _ w3).alloc (Nat.le_refl _) _).trans (hB4.mono (by simp))
        have hm4 : MemP w4 mb S (List.replicate N 0) (List.replicate N 0) (fun _ _ => 0) (fun _ => []) 0 0 0 0 := HM3.out.below hB34
        have HM4 := Lib.hid hm4
        have HNw := Lib.hid (rnew_v (some ⟨mb, 0, none⟩) c v (withinL N [(p0, p1)]) w4 (by have := own_mono hrow (Nat.zero_le _); exact this) (by rw [withinL_len]; simp))
        have HB4 := Lib.hid (HB3.out.trans (hB34.mono HB3.out.size))
        clear hrow hB4 hB34 hm4 hn1 hn2 d0 d1 hxb
        go_wp2_with (fail)
        refine HNw.out.mono ?_
        rintro e w5 ⟨rb2, sl2, rfl, hb5, hown5, hrb5, _, hB5⟩
        have hm5 := HM4.out.below hB5
        have HSt2 := Lib.hid (rstep_client w5 rb2 _ 30 mb S c _ _ _ _ _ _ _ _ hb5 rfl rfl rfl rfl HCo.out hm5)
        have HM5 := Lib.hid hm5
        have HB5 := Lib.hid (HB4.out.trans (hB5.mono HB4.out.size))
        have HRb5 := Lib.hid (show w.heap.size ≤ rb2 ∧ ∀ i, S i → i < rb2 from ⟨by have := HB4.out.size; omega, fun i hi => by have := HM4.out.lt hi; omega⟩)
        clear hb5 hown5 hrb5 hB5 hm5
        go_wp2_with (fail)
        refine HSt2.out.mono ?_
        rintro e w6 ⟨rfl, hk6, _⟩
        have hm6 := HM5.out.kept hk6 (fun i hi e => by have := HRb5.out.2 i hi; omega)
        have HS6 := Lib.hid (stats_m hm6)
        have HB6 := Lib.hid (HB5.out.keeps (Nat.le_refl _) hk6 (fun i hi => by have := HRb5.out.1; omega))
        clear hm6 hk6
        go_wp2_with (fail)
        refine HS6.out.mono ?_
        rintro e w7 ⟨rfl, hB7⟩
        unfold statCells
        have HB7 := Lib.hid (HB6.out.trans (hB7.mono HB6.out.size))
        have HK := Lib.hid (known_v w7)
        clear hB7
        go_wp2_with (fail)
        refine HK.out.mono ?_
        rintro e w10 ⟨rfl, hB10⟩
        have HB10 := Lib.hid (HB7.out.trans (hB10.mono HB7.out.size))
        clear hB10
        go_wp2_with (fail)
        go_ret
        exact ⟨rfl, HB10.out⟩
      · have hc1 : (64 : Int) < c := by omega
        have hc2 : 0 ≤ c := by omega
        have hdc : decide (c ≤ 64) = false := decide_eq_false (by omega)
        clear hci hco hc hc0 hc1
        go_wp2_with (fail)
        refine HRn.out.mono ?_
        rintro e w2 ⟨rb, sl, rfl, hb2, hown, hrb, hne, hB2⟩
        obtain ⟨a, nn, cp, rfl⟩ := own_slice hown
        obtain rfl : nn = 0 := own_len hown
        have hm2 : MemP w2 mb S (List.replicate N 0) (List.replicate N 0) (fun _ _ => 0) (fun _ => []) 0 0 0 0 := HMm.out.below hB2
        have HSt := Lib.hid (rstep_client w2 rb _ 30 mb S c _ _ _ _ _ _ _ _ hb2 rfl rfl rfl rfl HCo.out hm2)
        have HM2 := Lib.hid hm2
        have HB2 := Lib.hid (HB1.out.trans (hB2.mono HB1.out.size))
        have HRb := Lib.hid (show w.heap.size < rb ∧ xb < rb ∧ w1.heap.size ≤ rb from ⟨by have := HBx.out.lt; have := HXb.out; have := HB01.out.size; omega, by have := HBx.out.lt; have := HB01.out.size; omega, hrb⟩)
        have HBx2 := Lib.hid ((HBx.out.kept (Keeps.of_below' HB01.out) (fun h => h)).kept (Keeps.of_below' hB2) (fun h => h))
        clear hb2 hown hrb hne hB2 hm2
        go_wp2_with (fail)
        refine HSt.out.mono ?_
        rintro e w3 ⟨rfl, hk3, _⟩
        have hm3 := HM2.out.kept hk3 (fun i hi e => by have := HMm.out.lt hi; have := HRb.out; omega)
        have HM3 := Lib.hid hm3
        have HB3 := Lib.hid (HB2.out.keeps (Nat.le_refl _) hk3 (fun i hi => by have := HRb.out.1; omega))
        have HBx3 := Lib.hid (HBx2.out.kept hk3 (fun hi => by have := HRb.out; omega))
        clear hm3 hk3
        have d0 : w3.cell? ⟨xb, 0, none⟩ = some (.int .u64 p0) := HBx3.out.cell 0
        have d1 : w3.cell? ⟨xb, 1, none⟩ = some (.int .u64 p1) := HBx3.out.cell 1
        have hxb := HXb.out
        have hn1 := HNn.out.2.1
        have hn2 := HNn.out.2.2
        have hEa : EntsAt (w3.alloc (.cells #[.int .u64 p0, .int .u64 p1] 25)) w3.heap.size 0 [(p0, p1)] := fun i hi => by
          obtain rfl : i = 0 := by simpa using hi
          have hb := Blk.new w3 #[.int .u64 p0, .int .u64 p1] 25
          exact ⟨hb.cell 0, hb.cell 1⟩
        have HWi := Lib.hid (within_v N (by have := HNn.out; omega) (some ⟨w3.heap.size, 0, none⟩) [(p0, p1)] 1 (w3.alloc (.cells #[.int .u64 p0, .int .u64 p1] 25)) (fun _ => ⟨_, _, rfl, by simp, hEa⟩) (by simp) (fun i hi => by
          obtain rfl : i = 0 := by simpa using hi
          exact HP.out.1))
        have HNe := Lib.hid (show 64 * n = ((8 * N : Nat) : Int) from by have := HNn.out; omega)
        clear hEa
        go_wp2_with (fail)
        rw [HNe.out]
        refine HWi.out.mono ?_
        rintro e w4 ⟨v, rfl, hrow, hB4⟩
        have hB34 : Below w3.heap.size w3 w4 := ((Below.refl _ w3).alloc (Nat.le_refl _) _).trans (hB4.mono (by simp))
        have hm4 : MemP w4 mb S (List.replicate N 0) (List.replicate N 0) (fun _ _ => 0) (fun _ => []) 0 0 0 0 := HM3.out.below hB34
        have HM4 := Lib.hid hm4
        have HNw := Lib.hid (rnew_v (some ⟨mb, 0, none⟩) c v (withinL N [(p0, p1)]) w4 (by have := own_mono hrow (Nat.zero_le _); exact this) (by rw [withinL_len]; simp))
        have HB4 := Lib.hid (HB3.out.trans (hB34.mono HB3.out.size))
        clear hrow hB4 hB34 hm4 hn1 hn2 d0 d1 hxb
        go_wp2_with (fail)
        refine HNw.out.mono ?_
        rintro e w5 ⟨rb2, sl2, rfl, hb5, hown5, hrb5, _, hB5⟩
        have hm5 := HM4.out.below hB5
        have HSt2 := Lib.hid (rstep_client w5 rb2 _ 30 mb S c _ _ _ _ _ _ _ _ hb5 rfl rfl rfl rfl HCo.out hm5)
        have HM5 := Lib.hid hm5
        have HB5 := Lib.hid (HB4.out.trans (hB5.mono HB4.out.size))
        have HRb5 := Lib.hid (show w.heap.size ≤ rb2 ∧ ∀ i, S i → i < rb2 from ⟨by have := HB4.out.size; omega, fun i hi => by have := HM4.out.lt hi; omega⟩)
        clear hb5 hown5 hrb5 hB5 hm5
        go_wp2_with (fail)
        refine HSt2.out.mono ?_
        rintro e w6 ⟨rfl, hk6, _⟩
        have hm6 := HM5.out.kept hk6 (fun i hi e => by have := HRb5.out.2 i hi; omega)
        have HS6 := Lib.hid (stats_m hm6)
        have HB6 := Lib.hid (HB5.out.keeps (Nat.le_refl _) hk6 (fun i hi => by have := HRb5.out.1; omega))
        clear hm6 hk6
        go_wp2_with (fail)
        refine HS6.out.mono ?_
        rintro e w7 ⟨rfl, hB7⟩
        unfold statCells
        have HB7 := Lib.hid (HB6.out.trans (hB7.mono HB6.out.size))
        have HK := Lib.hid (known_v w7)
        clear hB7
        go_wp2_with (fail)
        refine HK.out.mono ?_
        rintro e w10 ⟨rfl, hB10⟩
        have HB10 := Lib.hid (HB7.out.trans (hB10.mono HB7.out.size))
        clear hB10
        go_wp2_with (fail)
        go_ret
        exact ⟨rfl, HB10.out⟩
end Go.Proofs.Ytefgahcadfmmoaa
