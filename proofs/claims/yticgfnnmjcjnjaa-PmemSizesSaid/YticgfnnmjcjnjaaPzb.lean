/-
  leveeref02.May, pmem.New at sizes that may not be, pmem.Mem.Pending.
-/
import Derived.Test.YticgfnnmjcjnjaaRcm
namespace Go.Proofs.Yticgfnnmjcjnjaa
open Go.RowKit Go.Maps
attribute [local go_sem] Oper.semAt_some
set_option linter.unusedVariables false

def mayI (n : Int) : Bool := decide (64 ≤ n ∧ n ≤ 1048576 ∧ n % 64 = 0)
theorem rmay_v (w : World) (n : Int) : Calls Try.prog 5 #[.int .i64 n] w fun e w' => e = .returned (.bool (mayI n)) ∧ w = w' := by
  by_cases h1 : (64 : Int) ≤ n
  · by_cases h2 : n ≤ 1048576
    · by_cases h3 : n % 64 = 0
      · have HR := Lib.hid (show mayI n = true from decide_eq_true ⟨by omega, by omega, by omega⟩)
        have e1 : (n % 64 == 0) = true := beq_iff_eq.2 h3
        clear h3
        go_enter Try.func5, Try.ntmps5
        go_wp2_with (fail)
        go_ret
        exact ⟨by rw [HR.out]; rfl, rfl⟩
      · have HR := Lib.hid (show mayI n = false from decide_eq_false (by omega))
        have e1 : (n % 64 == 0) = false := beq_eq_false_iff_ne.2 h3
        clear h3
        go_enter Try.func5, Try.ntmps5
        go_wp2_with (fail)
        go_ret
        exact ⟨by rw [HR.out]; rfl, rfl⟩
    · have HR := Lib.hid (show mayI n = false from decide_eq_false (by omega))
      go_enter Try.func5, Try.ntmps5
      go_wp2_with (fail)
      go_ret
      exact ⟨by rw [HR.out]; rfl, rfl⟩
  · have HR := Lib.hid (show mayI n = false from decide_eq_false (by omega))
    go_enter Try.func5, Try.ntmps5
    go_wp2_with (fail)
    go_ret
    exact ⟨by rw [HR.out]; rfl, rfl⟩
theorem imay_v (w : World) (n : Int) : Calls Try.prog 11 #[.int .i64 n] w fun e w' => e = .returned (.bool (mayI n)) ∧ w = w' := by
  by_cases h1 : (64 : Int) ≤ n
  · by_cases h2 : n ≤ 1048576
    · by_cases h3 : n % 64 = 0
      · have HR := Lib.hid (show mayI n = true from decide_eq_true ⟨by omega, by omega, by omega⟩)
        have e1 : (n % 64 == 0) = true := beq_iff_eq.2 h3
        clear h3
        go_enter Try.func11, Try.ntmps11
        go_wp2_with (fail)
        go_ret
        exact ⟨by rw [HR.out]; rfl, rfl⟩
      · have HR := Lib.hid (show mayI n = false from decide_eq_false (by omega))
        have e1 : (n % 64 == 0) = false := beq_eq_false_iff_ne.2 h3
        clear h3
        go_enter Try.func11, Try.ntmps11
        go_wp2_with (fail)
        go_ret
        exact ⟨by rw [HR.out]; rfl, rfl⟩
    · have HR := Lib.hid (show mayI n = false from decide_eq_false (by omega))
      go_enter Try.func11, Try.ntmps11
      go_wp2_with (fail)
      go_ret
      exact ⟨by rw [HR.out]; rfl, rfl⟩
  · have HR := Lib.hid (show mayI n = false from decide_eq_false (by omega))
    go_enter Try.func11, Try.ntmps11
    go_wp2_with (fail)
    go_ret
    exact ⟨by rw [HR.out]; rfl, rfl⟩
theorem new_no (w : World) (n : Int) (h : mayI n = false) : Calls Try.prog 4 #[.int .i64 n] w fun e w' => e = .returned (.tuple #[.pointer none, .int .i64 2]) ∧ w = w' := by
  have HM := Lib.hid (imay_v w n)
  rw [h] at HM
  clear h
  go_enter Try.func4, Try.ntmps4
  go_wp2_with (fail)
  refine HM.out.mono ?_
  rintro e w1 ⟨rfl, rfl⟩
  go_wp2_with (fail)
  go_ret2
  exact ⟨rfl, rfl⟩
theorem mayI_form {n : Int} (h : mayI n = true) : ∃ N : Nat, n = ((8 * N : Nat) : Int) ∧ 0 < N ∧ N ≤ 131072 ∧ mayB (8 * N) = true := by
  have h' := of_decide_eq_true h
  obtain ⟨h1, h2, h3⟩ := h'
  refine ⟨(n / 8).toNat, by omega, by omega, by omega, decide_eq_true ⟨by omega, by omega, by omega⟩⟩

/-- how many stores of a line are pending -/
theorem pend_m {w : World} {mb : Nat} {S : Nat → Prop} {vs is : List Int} {mk : Int → Nat → Int} {F : Int → List (Int × Int)} {lo st fl fe : Int} (h : MemP w mb S vs is mk F lo st fl fe) (a : Int) (h0 : 0 ≤ a) (h1 : a ≤ 18446744073709551615) (he : atE vs.length a = 0) :
    Calls Try.prog 16 #[.pointer (some ⟨mb, 0, none⟩), .int .u64 a] w fun e w' => e = .returned (.int .i64 ((F (lineOf a)).length : Int)) ∧ w' = w.drew := by
  obtain ⟨N0, vv, vi, ml, D, sl, hm, hN, hS, hp, hl, hi, hok, hF, hmk, hh, r⟩ := h
  have HAt := Lib.hid (mat_v w mb vs is vv vi ml lo st fl fe hm.m hp (by omega) a h0 h1)
  rw [he] at HAt
  have HBg := Lib.hid (fun W => begin_v a h0 h1 W)
  have hb := begin_v a h0 h1 w
  have hlo : 0 ≤ lineOf a ∧ lineOf a ≤ 18446744073709551615 := by unfold lineOf; omega
  obtain ⟨a0, ha0⟩ : ∃ a0, lineOf a = a0 := ⟨_, rfl⟩
  rw [ha0] at HBg hlo ⊢
  have HC := Lib.hid (show w.drew.cell? ⟨mb, 2, none⟩ = some (.map (some ml)) from hm.m.c 2)
  obtain ⟨s0, hs0⟩ : ∃ s0, sl a0 = s0 := ⟨_, rfl⟩
  obtain ⟨f0, hf0⟩ : ∃ f0, mk a0 = f0 := ⟨_, rfl⟩
  have hsl : ∃ p c, s0 = .slice p (F a0).length c := by
    have hr := hm.r a0
    rw [hs0] at hr
    rcases hr with h | ⟨g, o, cs, e, _⟩
    · exact own_form h
    · exact ⟨_, _, e⟩
  obtain ⟨p, c, rfl⟩ := hsl
  have hE := hm.e a0
  rw [hs0, hf0] at hE
  have HL := Lib.hid (show (Instr.lookup 42 (.map (some ml)) (.int .u64 a0) false).run Try.prog w.drew = .ok (.agg (lnCells (.slice p (F a0).length c) f0)) w.drew from own_look (ownL_keeps hm.o ((Keeps.refl (fun _ => False) w).drew) (fun h => h)) a0 hlo.1 hlo.2 hE)
  have HFl := Lib.hid (lnCells_0 (.slice p (F a0).length c) f0)
  obtain ⟨q, hq⟩ : ∃ q, (F a0).length = q := ⟨_, rfl⟩
  rw [hq] at HL HFl ⊢
  clear hm hN hS hp hl hi hok hF hmk hh r hb hlo ha0 hs0 hf0 hE hq he
  go_enter Try.func16, Try.ntmps16
  go_wp2_with (fail)
  refine HAt.out.mono ?_
  rintro e w1 ⟨rfl, rfl⟩
  go_wp2_with (fail)
  --GEN r_pd3
  refine wp_region_vals [Is (.pointer (some ⟨mb, 0, none⟩)), Is (.pointer (some ⟨mb, 0, none⟩)), Is (.pointer (some ⟨mb, 2, none⟩)), Is (.map (some ml)), Is (.int .u64 a), Is (.int .u64 a0), Is (.agg (lnCells (.slice p q c) f0)), Is (.slice p q c), Is (.int .i64 (q : Int)), Is (.int .i64 (q : Int))]
    (fun _ _ _ => True) (fun _ W => W = w.drew) (by kernel_rfl) (by kernel_rfl) (by kernel_rfl) ?hst ?h0 ⟨?o0, ?o1, ?o2, ?o3, ?o4, ?o5, ?o6, ?o7, ?o8, ?o9, trivial⟩ ?he
  case hst =>
    exact ⟨(fun _ _ _ _ _ _ h _ => h), (fun _ _ _ _ _ _ h _ => h), (fun _ _ _ _ _ _ h _ => h), (fun _ _ _ _ _ _ h _ => h), (fun _ _ _ _ _ _ h _ => h), (fun _ _ _ _ _ _ h _ => h), (fun _ _ _ _ _ _ h _ => h), (fun _ _ _ _ _ _ h _ => h), (fun _ _ _ _ _ _ h _ => h), (fun _ _ _ _ _ _ h _ => h), trivial⟩
  case h0 =>
    exact rfl
  case o0 =>
    intro L vs A W H hf hd K hK
    have e0 : A.tmps[0]?.getD undef = .pointer (some ⟨mb, 0, none⟩) := H.old 0 (by kernel_rfl)
    go_simp
    exact hK _ _ (trivial) rfl (H.glob)
  case o1 =>
    intro L vs A W H hf hd K hK
    have e9 := H.is 0 9 rfl rfl rfl (deps_of' hd 0 (by kernel_rfl)) (by kernel_rfl)
    go_simp
    exact hK _ _ (trivial) rfl (H.glob)
  case o2 =>
    intro L vs A W H hf hd K hK
    have e10 := H.is 1 10 rfl rfl rfl (deps_of' hd 1 (by kernel_rfl)) (by kernel_rfl)
    go_simp
    exact hK _ _ (trivial) rfl (H.glob)
  case o3 =>
    intro L vs A W H hf hd K hK
    have e11 := H.is 2 11 rfl rfl rfl (deps_of' hd 2 (by kernel_rfl)) (by kernel_rfl)
    have d : W.cell? ⟨mb, 2, none⟩ = some (.map (some ml)) := (by rw [H.glob]; exact HC.out)
    go_simp
    exact hK _ _ (trivial) rfl (H.glob)
  case o4 =>
    intro L vs A W H hf hd K hK
    have e1 : A.tmps[1]?.getD undef = .int .u64 a := H.old 1 (by kernel_rfl)
    go_simp
    exact hK _ _ (trivial) rfl (H.glob)
  case o5 =>
    intro L vs A W H hf hd K hK
    have e13 := H.is 4 13 rfl rfl rfl (deps_of' hd 4 (by kernel_rfl)) (by kernel_rfl)
    go_simp
    refine (HBg.out W).mono ?_
    rintro e w' ⟨rfl, rfl⟩
    go_simp
    exact hK _ _ trivial rfl H.glob
  case o6 =>
    intro L vs A W H hf hd K hK
    have e12 := H.is 3 12 rfl rfl rfl (deps_of' hd 3 (by kernel_rfl)) (by kernel_rfl)
    have e14 := H.is 5 14 rfl rfl rfl (deps_of' hd 5 (by kernel_rfl)) (by kernel_rfl)
    have hl : (Instr.lookup 42 (.map (some ml)) (.int .u64 a0) false).run Try.prog W = .ok (.agg (lnCells (.slice p q c) f0)) W := (by rw [H.glob]; exact HL.out)
    go_simp
    exact hK _ _ (trivial) rfl (H.glob)
  case o7 =>
    intro L vs A W H hf hd K hK
    have e15 := H.is 6 15 rfl rfl rfl (deps_of' hd 6 (by kernel_rfl)) (by kernel_rfl)
    have hfl := HFl.out
    go_simp
    exact hK _ _ (trivial) rfl (H.glob)
  case o8 =>
    intro L vs A W H hf hd K hK
    have e16 := H.is 7 16 rfl rfl rfl (deps_of' hd 7 (by kernel_rfl)) (by kernel_rfl)
    go_simp
    exact hK _ _ (trivial) rfl (H.glob)
  case o9 =>
    intro L vs A W H hf hd K hK
    have e17 := H.is 8 17 rfl rfl rfl (deps_of' hd 8 (by kernel_rfl)) (by kernel_rfl)
    go_simp
    exact hK _ _ (trivial) rfl (H.glob)
  case he =>
    intro vs W hlen hv
    match vs, hlen, hv with
    | [x0_, x1_, x2_, x3_, x4_, x5_, x6_, x7_, x8_, x9_], _, hv =>
    obtain rfl : (.pointer (some ⟨mb, 0, none⟩)) = x0_ := by obtain ⟨z, h1, h2⟩ := hv 0 _ rfl; cases h1; exact h2.symm
    obtain rfl : (.pointer (some ⟨mb, 0, none⟩)) = x1_ := by obtain ⟨z, h1, h2⟩ := hv 1 _ rfl; cases h1; exact h2.symm
    obtain rfl : (.pointer (some ⟨mb, 2, none⟩)) = x2_ := by obtain ⟨z, h1, h2⟩ := hv 2 _ rfl; cases h1; exact h2.symm
    obtain rfl : (.map (some ml)) = x3_ := by obtain ⟨z, h1, h2⟩ := hv 3 _ rfl; cases h1; exact h2.symm
    obtain rfl : (.int .u64 a) = x4_ := by obtain ⟨z, h1, h2⟩ := hv 4 _ rfl; cases h1; exact h2.symm
    obtain rfl : (.int .u64 a0) = x5_ := by obtain ⟨z, h1, h2⟩ := hv 5 _ rfl; cases h1; exact h2.symm
    obtain rfl : (.agg (lnCells (.slice p q c) f0)) = x6_ := by obtain ⟨z, h1, h2⟩ := hv 6 _ rfl; cases h1; exact h2.symm
    obtain rfl : (.slice p q c) = x7_ := by obtain ⟨z, h1, h2⟩ := hv 7 _ rfl; cases h1; exact h2.symm
    obtain rfl : (.int .i64 (q : Int)) = x8_ := by obtain ⟨z, h1, h2⟩ := hv 8 _ rfl; cases h1; exact h2.symm
    obtain rfl : (.int .i64 (q : Int)) = x9_ := by obtain ⟨z, h1, h2⟩ := hv 9 _ rfl; cases h1; exact h2.symm
    intro L hall hG
    clear hv hlen
    have HG := Lib.hid hG
    clear hG hall
    simp only [fill, if_true]
    simp [Act.put]
  --END
    go_wp2_with (fail)
    go_ret
    exact ⟨rfl, HG.out⟩
end Go.Proofs.Yticgfnnmjcjnjaa
