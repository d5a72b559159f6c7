/-
  fast.Repair: a contract.
-/
import Derived.Test.YtbpaefhihdhdeaaCu
import Derived.Test.YtbpaefhihdhdeaaNx
import Derived.Deep.DeepCutAuto
namespace Go.Proofs.Ytbpaefhihdhdeaa
open Go.RowKit
set_option linter.unusedVariables false

def repE (base : Int) (n : Nd) : Int := if mayE base n = 2 then 2 else if mayE base n = 0 then 7 else 0
def repL (base : Int) (n : Nd) (p : Nat) : List (Int × Int) :=
  [(base + 24, cOne n)] ++ gapL base n p (n.len - 1 - p) ++ [(base + 64 + 16 * ((n.len - 1 : Nat) : Int) + 8, 0)] ++ [(base + 24, cTwo n)]
def repP (base : Int) (n : Nd) : List (Int × Int) := if repE base n = 0 then repL base n n.invalid.toNat else []
theorem mayE_val (base : Int) (n : Nd) : mayE base n = 0 ∨ mayE base n = 2 ∨ (mayE base n = 7 ∧ Stands base ∧ n.mayB 0 false = true ∧ 0 ≤ n.invalid) := by
  unfold mayE
  split
  · rename_i h
    split
    · rename_i h2; exact .inr (.inr ⟨rfl, h.1, h.2, h2⟩)
    · exact .inl rfl
  · exact .inr (.inl rfl)

set_option maxRecDepth 100000 in
set_option maxHeartbeats 3200000 in
theorem repair_v (base : Int) (n : Nd) (w : World) :
    Calls Try.prog 21 #[.int .u64 base, .agg (ndCells n)] w fun e w' => MadeP (repP base n) (repE base n) w e w' := by
  have HI := Lib.hid (info27 n)
  have hk0 : Blk (w.alloc (.cells (ndCells n) 27)) w.heap.size (ndCells n) 27 := Blk.new w _ _
  have HK0 := Lib.hid hk0
  have HL0 := Lib.hid (ndLoad hk0)
  have HB0 := Lib.hid ((Below.refl w.heap.size w).alloc (Nat.le_refl _) (.cells (ndCells n) 27))
  have HM := Lib.hid (fun w => may_v base n w)
  clear hk0
  rcases mayE_val base n with hm | hm | ⟨hm, ⟨s1, s2, s3⟩, _, hinv⟩
  · have HE := Lib.hid (show repE base n = 7 ∧ repP base n = [] by
      have : repE base n = 7 := by unfold repE; rw [if_neg (by omega), if_pos hm]
      exact ⟨this, by unfold repP; rw [this]; rfl⟩)
    rw [hm] at HM
    clear hm
    go_enter Try.func21, Try.ntmps21
    go_wp2_with (with_reducible refine wpList_load_part (o := ⟨some 8, _, _, _, _, _⟩) rfl 27 _ rfl w.heap.size 0 rfl (ndCells n) _ HL0.out Try.underlying27 rfl HI.out ?_)
    refine (HM.out _).mono ?_
    rintro e w1 ⟨rfl, hB⟩
    have HK1 := Lib.hid (HK0.out.below hB HK0.out.lt)
    have HL1 := Lib.hid (ndLoad HK1.out)
    have HB1 := Lib.hid (HB0.out.trans (hB.mono HB0.out.size))
    clear hB
    go_wp2_with (fail)
    go_ret2
    rw [HE.out.1, HE.out.2]
    exact MadeP.err HB1.out
  · have HE := Lib.hid (show repE base n = 2 ∧ repP base n = [] by
      have : repE base n = 2 := by unfold repE; rw [if_pos hm]
      exact ⟨this, by unfold repP; rw [this]; rfl⟩)
    rw [hm] at HM
    clear hm
    go_enter Try.func21, Try.ntmps21
    go_wp2_with (with_reducible refine wpList_load_part (o := ⟨some 8, _, _, _, _, _⟩) rfl 27 _ rfl w.heap.size 0 rfl (ndCells n) _ HL0.out Try.underlying27 rfl HI.out ?_)
    refine (HM.out _).mono ?_
    rintro e w1 ⟨rfl, hB⟩
    have HK1 := Lib.hid (HK0.out.below hB HK0.out.lt)
    have HL1 := Lib.hid (ndLoad HK1.out)
    have HB1 := Lib.hid (HB0.out.trans (hB.mono HB0.out.size))
    clear hB
    go_wp2_with (fail)
    go_ret2
    rw [HE.out.1, HE.out.2]
    exact MadeP.err HB1.out
  · obtain ⟨p, hp, hlt⟩ := inval_lt n hinv
    have h8 := n.len_le
    obtain ⟨q, hq⟩ : ∃ q, n.len = q + 1 := ⟨n.len - 1, by omega⟩
    have HE := Lib.hid (show repE base n = 0 ∧ repP base n = [(base + 24, cOne n)] ++ gapL base n p (q - p) ++ [(base + 64 + 16 * (q : Int) + 8, 0)] ++ [(base + 24, cTwo n)] by
      have : repE base n = 0 := by unfold repE; rw [if_neg (by omega), if_neg (by omega)]
      refine ⟨this, ?_⟩
      unfold repP repL
      rw [if_pos this, hp, hq]
      simp)
    have HIv := Lib.hid (fun w => invalid_calls n w)
    have HLn := Lib.hid (fun w => len_calls n w)
    rw [hq, Int.natCast_add, Int.natCast_one] at HLn
    rw [hp] at HIv
    rw [hm] at HM
    have hpq : p ≤ q := by omega
    have hq8 : q + 1 ≤ 8 := by omega
    have s0 : 0 ≤ base := by omega
    clear hm s3 hp hlt h8 hq hinv
    go_enter Try.func21, Try.ntmps21
    go_wp2_with (with_reducible refine wpList_load_part (o := ⟨some 8, _, _, _, _, _⟩) rfl 27 _ rfl w.heap.size 0 rfl (ndCells n) _ HL0.out Try.underlying27 rfl HI.out ?_)
    refine (HM.out _).mono ?_
    rintro e w1 ⟨rfl, hB⟩
    have HK1 := Lib.hid (HK0.out.below hB HK0.out.lt)
    have HL1 := Lib.hid (ndLoad HK1.out)
    have HB1 := Lib.hid (HB0.out.trans (hB.mono HB0.out.size))
    clear hB
    go_wp2_with (with_reducible refine wpList_load_part (o := ⟨some 15, _, _, _, _, _⟩) rfl 27 _ rfl w.heap.size 0 rfl (ndCells n) _ HL1.out Try.underlying27 rfl HI.out ?_)
    refine (cbegin base n (by omega) (by omega) (cOne n) rfl _).mono ?_
    rintro e w2 ⟨b, rfl, hc, hB⟩
    have HC := Lib.hid hc
    have HK2 := Lib.hid (HK1.out.below hB HK1.out.lt)
    have HBb := Lib.hid hB
    have HwB := Lib.hid HK1.out.lt
    clear hc hB HK0 HL0 HL1
    go_upto_region 7 with (fail)
    --GEN r_rep
    refine wp_region_vals [Is (.pointer (some ⟨b, 0, none⟩)), Is (.agg (ndCells n)), Is (.int .i64 p), Is (.agg (ndCells n)), Is (.int .i64 ((q : Int) + 1)), Any]
      (fun _ _ _ => True) (fun L W => (if L 5 = true then (∃ m', CSet w1.heap.size b base m' ([(base + 24, cOne n)] ++ gapL base n p (q - p) ++ [(base + 64 + 16 * (q : Int) + 8, 0)]) W ∧ m'.ct = n.ct) else CSet w1.heap.size b base n [(base + 24, cOne n)] W) ∧ Blk W w.heap.size (ndCells n) 27 ∧ Below w1.heap.size w1 W) (by kernel_rfl) (by kernel_rfl) (by kernel_rfl) ?hst ?h0 ⟨?o0, ?o1, ?o2, ?o3, ?o4, ?o5, trivial⟩ ?he
    case hst =>
      exact ⟨(fun _ _ _ _ _ _ h _ => h), (fun _ _ _ _ _ _ h _ => h), (fun _ _ _ _ _ _ h _ => h), (fun _ _ _ _ _ _ h _ => h), (fun _ _ _ _ _ _ h _ => h), (fun _ _ _ _ _ _ h _ => h), trivial⟩
    case h0 =>
      exact ⟨HC.out.keep (Below.refl _ _).drew, HK2.out.drew, HBb.out.drew⟩
    case o0 =>
      intro L vs A W H hf hd K hK
      have e6 : A.tmps[6]?.getD undef = .pointer (some ⟨b, 0, none⟩) := H.old 6 (by kernel_rfl)
      go_simp
      exact hK _ _ (trivial) rfl (H.glob)
    case o1 =>
      intro L vs A W H hf hd K hK
      have e3 : A.tmps[3]?.getD undef = .pointer (some ⟨w.heap.size, 0, none⟩) := H.old 3 (by kernel_rfl)
      rw [if_pos (show Region.wanted _ _ = true from rfl)]
      exact wp_load_nd _ rfl w.heap.size n (ev_tmp e3) H.glob.2.1 (hK _ _ trivial rfl H.glob)
    case o2 =>
      intro L vs A W H hf hd K hK
      have e18 := H.is 1 18 rfl rfl rfl (deps_of' hd 1 (by kernel_rfl)) (by kernel_rfl)
      have n5 := H.notYet 5 2 rfl hf (by kernel_rfl)
      have hg := H.glob
      rw [n5] at hg
      have hg1 : CSet w1.heap.size b base n [(base + 24, cOne n)] W := hg.1
      have ha : (if lset L 2 5 = true then (∃ m', CSet w1.heap.size b base m' ([(base + 24, cOne n)] ++ gapL base n p (q - p) ++ [(base + 64 + 16 * (q : Int) + 8, 0)]) W ∧ m'.ct = n.ct) else CSet w1.heap.size b base n [(base + 24, cOne n)] W) := by rw [show lset L 2 5 = false from n5]; exact hg1
      go_wp2_with (fail)
      refine (HIv.out _).mono ?_
      rintro e W2 ⟨rfl, hB⟩
      exact hK _ _ trivial rfl ⟨by rw [show lset L 2 5 = false from n5]; exact hg1.keep hB, hg.2.1.below hB hg.2.1.lt, hg.2.2.trans (hB.mono hg1.size)⟩
    case o3 =>
      intro L vs A W H hf hd K hK
      have e3 : A.tmps[3]?.getD undef = .pointer (some ⟨w.heap.size, 0, none⟩) := H.old 3 (by kernel_rfl)
      rw [if_pos (show Region.wanted _ _ = true from rfl)]
      exact wp_load_nd _ rfl w.heap.size n (ev_tmp e3) H.glob.2.1 (hK _ _ trivial rfl H.glob)
    case o4 =>
      intro L vs A W H hf hd K hK
      have e20 := H.is 3 20 rfl rfl rfl (deps_of' hd 3 (by kernel_rfl)) (by kernel_rfl)
      have n5 := H.notYet 5 4 rfl hf (by kernel_rfl)
      have hg := H.glob
      rw [n5] at hg
      have hg1 : CSet w1.heap.size b base n [(base + 24, cOne n)] W := hg.1
      go_wp2_with (fail)
      refine (HLn.out _).mono ?_
      rintro e W2 ⟨rfl, hB⟩
      exact hK _ _ trivial rfl ⟨by rw [show lset L 4 5 = false from n5]; exact hg1.keep hB, hg.2.1.below hB hg.2.1.lt, hg.2.2.trans (hB.mono hg1.size)⟩
    case o5 =>
      intro L vs A W H hf hd K hK
      have e17 := H.is 0 17 rfl rfl rfl (deps_of' hd 0 (by kernel_rfl)) (by kernel_rfl)
      have e19 := H.is 2 19 rfl rfl rfl (deps_of' hd 2 (by kernel_rfl)) (by kernel_rfl)
      have e21 := H.is 4 21 rfl rfl rfl (deps_of' hd 4 (by kernel_rfl)) (by kernel_rfl)
      have hg := H.glob
      rw [show L 5 = false from hf] at hg
      have hg1 : CSet w1.heap.size b base n [(base + 24, cOne n)] W := hg.1
      have HCl := Lib.hid (cclose (n := n) hg1 p q ⟨rfl, fun _ _ => ⟨rfl, rfl⟩⟩ hpq hq8 (by simp) s0 s2)
      go_wp2_with (fail)
      refine HCl.out.mono ?_
      rintro e W2 ⟨rfl, hx, hB⟩
      exact hK _ _ trivial trivial ⟨by rw [show lset L 5 5 = true from rfl]; exact hx, hg.2.1.below hB HwB.out, hg.2.2.trans hB⟩
    case he =>
      intro vs W hlen hv
      match vs, hlen, hv with
      | [x0_, x1_, x2_, x3_, x4_, x5_], _, hv =>
      obtain rfl : (.pointer (some ⟨b, 0, none⟩)) = x0_ := by obtain ⟨z, h1, h2⟩ := hv 0 _ rfl; cases h1; exact h2.symm
      obtain rfl : (.agg (ndCells n)) = x1_ := by obtain ⟨z, h1, h2⟩ := hv 1 _ rfl; cases h1; exact h2.symm
      obtain rfl : (.int .i64 p) = x2_ := by obtain ⟨z, h1, h2⟩ := hv 2 _ rfl; cases h1; exact h2.symm
      obtain rfl : (.agg (ndCells n)) = x3_ := by obtain ⟨z, h1, h2⟩ := hv 3 _ rfl; cases h1; exact h2.symm
      obtain rfl : (.int .i64 ((q : Int) + 1)) = x4_ := by obtain ⟨z, h1, h2⟩ := hv 4 _ rfl; cases h1; exact h2.symm
      intro L hall hG
      clear hv hlen
      have h5 := hall 5 (by decide)
      have hg := hG
      rw [h5] at hg
      obtain ⟨⟨m6, hc6, hct⟩, hk6, hB6⟩ := (hg : (∃ m', CSet w1.heap.size b base m' ([(base + 24, cOne n)] ++ gapL base n p (q - p) ++ [(base + 64 + 16 * (q : Int) + 8, 0)]) W ∧ m'.ct = n.ct) ∧ Blk W w.heap.size (ndCells n) 27 ∧ Below w1.heap.size w1 W)
      have HEn := Lib.hid (cend hc6 (by simp [gapL_len]; omega) s0 s2 (cTwo n) (by rw [hct]; rfl))
      have HB6 := Lib.hid hB6
      clear hG hall h5 hc6 hct hk6 hB6
      simp only [fill, if_true]
      go_simp
      go_wp2_with (fail)
      refine HEn.out.mono ?_
      rintro e w7 ⟨a, m, c, rfl, hml, ho, hB7⟩
      have HD := Lib.hid (show MadeP (repP base n) 0 w (.returned (.tuple #[.slice a m c, .int .i64 0])) w7 from MadeP.done ⟨a, m, c, rfl, hml, ho, hB7⟩ (HB1.out.trans (HB6.out.mono HB1.out.size)) HB1.out.size HE.out.2.symm)
      clear hml ho hB7
      go_wp2_with (fail)
      go_ret2
      rw [HE.out.1]
      exact HD.out
    --END
end Go.Proofs.Ytbpaefhihdhdeaa
