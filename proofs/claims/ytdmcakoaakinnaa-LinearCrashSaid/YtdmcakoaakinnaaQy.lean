/-
  leveelaw28.LinearCrash: the walk (2).
-/
import Derived.Test.YtdmcakoaakinnaaQx
namespace Go.Proofs.Ytdmcakoaakinnaa
open Go.RowKit
attribute [local go_sem] Oper.semAt_some
set_option linter.unusedVariables false
set_option linter.unusedSimpArgs false

set_option maxRecDepth 100000 in
set_option maxHeartbeats 8000000 in
theorem crash_v (k : Int) (a b c : ByteArray) (w : World) (hk : U64P k) (ha : a.size ≤ maxLen) (hb : b.size ≤ maxLen) (hc : c.size ≤ maxLen) :
    Calls Try.prog 5 #[.int .u64 k, .string a, .string b, .string c] w fun e w' => e = .returned (.bool true) ∧ Below w.heap.size w w' := by
  have HBd := Lib.hid (And.intro ha (And.intro hb hc))
  have HB0 := Lib.hid (Below.refl w.heap.size w)
  clear ha hb hc hk
  have hlen : ∀ (s : ByteArray) ty W, (Builtin.len_ #[9] ty #[.string s]).run Try.prog W = .ok (.int .i64 s.size) W := fun s ty W => by kernel_rfl
  go_enter Try.func5, Try.ntmps5
  have HCb := Lib.hid (chain_below w k a b c)
  have HCr := Lib.hid (crW w k a b c)
  have HX := Lib.hid (show CrW (chainX w k a b c) w.heap.size k a b c ∧ Below w.heap.size w (chainX w k a b c) ∧ Calls Try.prog 9 #[.int .u64 k, .slice (some ⟨w.heap.size + 1, 0, none⟩) 1 1, .slice (some ⟨w.heap.size + 1 + 1 + 1 + 1 + 1 + 1 + 1 + 1 + 1, 0, none⟩) 1 1] (chainX w k a b c) (KeyQ k [⟨k, a⟩] [eX k b c (w.heap.size + 1 + 1 + 1 + 1) (w.heap.size + 1 + 1 + 1 + 1 + 1)] (chainX w k a b c)) from by
    have hz : (chainW w k a b c).heap.size = w.heap.size + 1 + 1 + 1 + 1 + 1 + 1 + 1 + 1 + 1 := by simp [chainW]
    have hE := one_ers HCr.out.x
    rw [hz] at hE
    have hC := HCr.out.below (alloc_below (chainW w k a b c) (.cells (ecellsE [eX k b c (w.heap.size + 1 + 1 + 1 + 1) (w.heap.size + 1 + 1 + 1 + 1 + 1)]).toArray 46))
    have hB := HCb.out.alloc HCb.out.size (.cells (ecellsE [eX k b c (w.heap.size + 1 + 1 + 1 + 1) (w.heap.size + 1 + 1 + 1 + 1 + 1)]).toArray 46)
    refine ⟨hC, hB, key_v k [⟨k, a⟩] [eX k b c (w.heap.size + 1 + 1 + 1 + 1) (w.heap.size + 1 + 1 + 1 + 1 + 1)] (some ⟨w.heap.size + 1, 0, none⟩) (some ⟨w.heap.size + 1 + 1 + 1 + 1 + 1 + 1 + 1 + 1 + 1, 0, none⟩) 1 1 _ _ (keyB_x k a b c _ _ HBd.out.1 HBd.out.2.1) (by simp) (by simp) (fun e he => (erL_x k b c _ _ e he).1) (fun e he => (erL_x k b c _ _ e he).2) (fun e he d hd => by
      obtain rfl := List.mem_singleton.1 he
      obtain rfl := List.mem_singleton.1 hd
      exact HBd.out.2.1) hC.f hE⟩)
  clear HCb HCr
  cases hS : decide (1000 < wrap64 (wrap64 ((a.size : Int) + b.size) + c.size)) with
  | true =>
    clear HX
    go_wp2_with (fail)
    refine (known_v w).mono ?_
    rintro e w1 ⟨rfl, hB⟩
    go_wp2_with (fail)
    go_ret
    exact ⟨rfl, hB⟩
  | false =>
    go_wp2_with (fail)
    rw [lit_chain]
    refine HX.out.2.2.mono ?_
    rintro e w1 ⟨y, rfl, hy, hB⟩
    rw [keyE_x, keyT_x] at hy
    rw [keyE_x]
    have HY := Lib.hid (show (y = true ↔ c = a ∨ c = b) from ⟨fun h => (hy.1 h).2, fun h => hy.2 ⟨rfl, h⟩⟩)
    have HC := Lib.hid (HX.out.1.below hB)
    have HB1 := Lib.hid (HX.out.2.1.trans (hB.mono HX.out.2.1.size))
    clear HX hB hy
    go_upto_region 10 with (fail)
    go_step
    refine wpList_plain rfl (fun K hK => ?_)
    go_simp
    refine hK _ _ ?_
    clear hK K
    refine wpList_plain rfl (fun K hK => ?_)
    go_simp
    refine hK _ _ ?_
    clear hK K
    refine wpList_load_er rfl (.tmp 11) rfl _ 0 (eLost k b (w.heap.size + 1 + 1)) rfl HC.out.l.k.cellsAt ?_
    refine wpList_load_dn rfl (.tmp 13) rfl _ 0 (gC k a 1 2) rfl HC.out.g.cellsAt ?_
    refine wpList_load_dn rfl (.tmp 14) rfl _ 0 (gC k b 3 4) rfl HC.out.h.cellsAt ?_
    refine wpList_bs2_dn rfl (.tmp 69) (.tmp 70) rfl (gC k a 1 2) (gC k b 3 4) rfl rfl ?_
    refine wpList_plain rfl (fun K hK => ?_)
    go_simp
    refine hK _ _ ?_
    clear hK K
    refine wpList_bs2_er rfl (.tmp 68) (.tmp 72) rfl (eLost k b (w.heap.size + 1 + 1)) (eGH k a b w1.heap.size) rfl rfl ?_
    have hd2 : DnsAt (w1.alloc (.cells (dcells [gC k a 1 2, gC k b 3 4]).toArray 53)) (some ⟨w1.heap.size, 0, none⟩) [gC k a 1 2, gC k b 3 4] := blk_dns (Blk.new w1 _ _) (fun d hd => by
      simp only [List.mem_cons, List.not_mem_nil, or_false] at hd
      rcases hd with rfl | rfl <;> exact PrsAt.nil _ _)
    have hk1 := alloc_below w1 (.cells (dcells [gC k a 1 2, gC k b 3 4]).toArray 53)
    have hC2 := HC.out.below hk1
    have hB2 := HB1.out.trans (hk1.mono HB1.out.size)
    generalize w1.alloc (.cells (dcells [gC k a 1 2, gC k b 3 4]).toArray 53) = w2 at hd2 hC2 hB2 ⊢
    generalize w1.heap.size = n1 at hd2 ⊢
    have hk2 := alloc_below w2 (.cells (ecellsE [eLost k b (w.heap.size + 1 + 1), eGH k a b n1]).toArray 46)
    have hE2 : ErsAt (w2.alloc (.cells (ecellsE [eLost k b (w.heap.size + 1 + 1), eGH k a b n1]).toArray 46)) (some ⟨w2.heap.size, 0, none⟩) [eLost k b (w.heap.size + 1 + 1), eGH k a b n1] := blk_ers (Blk.new w2 _ _) (fun x hx => by
      simp only [List.mem_cons, List.not_mem_nil, or_false] at hx
      rcases hx with rfl | rfl
      · exact ⟨hC2.l.d.below hk2, hC2.l.p.below hk2⟩
      · exact ⟨hd2.below hk2, PrsAt.nil _ _⟩)
    have hC3 := hC2.below hk2
    have hB3 := hB2.trans (hk2.mono hB2.size)
    generalize w2.alloc (.cells (ecellsE [eLost k b (w.heap.size + 1 + 1), eGH k a b n1]).toArray 46) = w3 at hE2 hC3 hB3 ⊢
    generalize w2.heap.size = n2 at hE2 ⊢
    have HK := Lib.hid (key_v k [⟨k, a⟩] [eLost k b (w.heap.size + 1 + 1), eGH k a b n1] (some ⟨w.heap.size + 1, 0, none⟩) (some ⟨n2, 0, none⟩) 1 2 w3 _ (keyB_gh k a b _ _ HBd.out.1 HBd.out.2.1) (by simp) (by simp) (fun e he => (erL_gh k a b _ _ e he).1) (fun e he => (erL_gh k a b _ _ e he).2) (fun e he d hd => by
      simp only [List.mem_cons, List.not_mem_nil, or_false] at he
      rcases he with rfl | rfl
      · obtain rfl := List.mem_singleton.1 hd
        exact HBd.out.2.1
      · simp only [eGH, List.mem_cons, List.not_mem_nil, or_false] at hd
        rcases hd with rfl | rfl <;> (show (0 : Nat) ≤ _; omega)) hC3.f hE2)
    have HB3 := Lib.hid hB3
    clear hd2 hk1 hk2 hC2 hB2 hE2 hC3 hB3 HC HB1
    go_wp2_with (fail)
    refine HK.out.mono ?_
    rintro e w4 ⟨z, rfl, hz, hB⟩
    rw [keyE_gh, keyT_gh] at hz
    rw [keyE_gh]
    have HZ := Lib.hid (show (z = true ↔ a = b) from ⟨fun h => (hz.1 h).2, fun h => hz.2 ⟨rfl, h⟩⟩)
    have HB4 := Lib.hid (HB3.out.trans (hB.mono HB3.out.size))
    clear HK hz hB HB3
    have eca : (c.toList == a.toList) = decide (c = a) := str_eqD c a
    have ecb : (c.toList == b.toList) = decide (c = b) := str_eqD c b
    have eab : (a.toList == b.toList) = decide (a = b) := str_eqD a b
    cases h1 : decide (c = a) <;> cases h2 : decide (c = b) <;> cases h3 : decide (a = b)
    all_goals
      first
        | (have hy : y = true := HY.out.2 (by first | exact .inl (of_decide_eq_true h1) | exact .inr (of_decide_eq_true h2)))
        | (have hy : y = false := by
            cases hyy : y with
            | false => rfl
            | true => exact absurd (HY.out.1 hyy) (by rintro (h | h); exact of_decide_eq_false h1 h; exact of_decide_eq_false h2 h))
    all_goals
      first
        | (have hz : z = true := HZ.out.2 (of_decide_eq_true h3))
        | (have hz : z = false := by
            cases hzz : z with
            | false => rfl
            | true => exact absurd (HZ.out.1 hzz) (of_decide_eq_false h3))
    all_goals
      subst hy hz
      rw [h1] at eca
      rw [h2] at ecb
      rw [h3] at eab
      clear HY HZ h1 h2 h3
    all_goals
      go_wp2_with (fail)
      refine (known_v _).mono ?_
      rintro e w5 ⟨rfl, hB⟩
      go_wp2_with (fail)
      go_ret
      exact ⟨rfl, HB4.out.trans (hB.mono HB4.out.size)⟩
end Go.Proofs.Ytdmcakoaakinnaa
