/-
  A RUN of no stores, at a store that may not be; Left: contracts.
-/
import Derived.Test.YtefgahcadfmmoaaRne
namespace Go.Proofs.Ytefgahcadfmmoaa
open Go.RowKit
attribute [local go_sem] Oper.semAt_some
set_option linter.unusedVariables false

set_option maxRecDepth 100000 in
theorem rleft_v (w : World) (rb cap ln k : Nat) (ga : Option Addr) (r : Rn) (hb : Blk w rb (rnCells r) 41) (hsl : r.sl = .slice ga ln cap) (hat : r.at_ = (k : Int)) (hk : k ≤ ln) (hl : ln ≤ 1000000) :
    Calls Try.prog 15 #[.pointer (some ⟨rb, 0, none⟩)] w fun e w' => e = .returned (.int .i64 ((ln : Int) - (k : Int))) ∧ w.drew = w' := by
  have HC := Lib.hid (show w.cell? ⟨rb, 2, none⟩ = some (.slice ga ln cap) ∧ w.cell? ⟨rb, 3, none⟩ = some (.int .i64 (k : Int)) from ⟨(hb.cell 2).trans (by rw [← hsl]; rfl), (hb.cell 3).trans (by rw [← hat]; rfl)⟩)
  have HWr := Lib.hid (show IntKind.i64.wrap ((ln : Int) - (k : Int)) = (ln : Int) - (k : Int) from IntWalk.i64_in _ (by omega))
  clear hb hsl hat hk hl
  go_enter Try.func15, Try.ntmps15
  go_wp2_with (fail)
  --GEN r_lf3
  refine wp_region_vals [Is (.pointer (some ⟨rb, 0, none⟩)), Is (.pointer (some ⟨rb, 0, none⟩)), Is (.pointer (some ⟨rb, 2, none⟩)), Is (.slice ga ln cap), Is (.int .i64 (ln : Int)), Is (.pointer (some ⟨rb, 0, none⟩)), Is (.pointer (some ⟨rb, 0, none⟩)), Is (.pointer (some ⟨rb, 3, none⟩)), Is (.int .i64 (k : Int)), Is (.int .i64 ((ln : Int) - (k : Int))), Is (.int .i64 ((ln : Int) - (k : Int)))]
    (fun _ _ _ => True) (fun _ W => W = w.drew) (by kernel_rfl) (by kernel_rfl) (by kernel_rfl) ?hst ?h0 ⟨?o0, ?o1, ?o2, ?o3, ?o4, ?o5, ?o6, ?o7, ?o8, ?o9, ?o10, trivial⟩ ?he
  case hst =>
    exact ⟨(fun _ _ _ _ _ _ h _ => h), (fun _ _ _ _ _ _ h _ => h), (fun _ _ _ _ _ _ h _ => h), (fun _ _ _ _ _ _ h _ => h), (fun _ _ _ _ _ _ h _ => h), (fun _ _ _ _ _ _ h _ => h), (fun _ _ _ _ _ _ h _ => h), (fun _ _ _ _ _ _ h _ => h), (fun _ _ _ _ _ _ h _ => h), (fun _ _ _ _ _ _ h _ => h), (fun _ _ _ _ _ _ h _ => h), trivial⟩
  case h0 =>
    exact rfl
  case o0 =>
    intro L vs A W H hf hd K hK
    have e0 : A.tmps[0]?.getD undef = .pointer (some ⟨rb, 0, none⟩) := H.old 0 (by kernel_rfl)
    go_simp
    exact hK _ _ (trivial) rfl (H.glob)
  case o1 =>
    intro L vs A W H hf hd K hK
    have e5 := H.is 0 5 rfl rfl rfl (deps_of' hd 0 (by kernel_rfl)) (by kernel_rfl)
    go_simp
    exact hK _ _ (trivial) rfl (H.glob)
  case o2 =>
    intro L vs A W H hf hd K hK
    have e6 := H.is 1 6 rfl rfl rfl (deps_of' hd 1 (by kernel_rfl)) (by kernel_rfl)
    go_simp
    exact hK _ _ (trivial) rfl (H.glob)
  case o3 =>
    intro L vs A W H hf hd K hK
    have e7 := H.is 2 7 rfl rfl rfl (deps_of' hd 2 (by kernel_rfl)) (by kernel_rfl)
    have d : W.cell? ⟨rb, 2, none⟩ = some (.slice ga ln cap) := (by rw [H.glob]; exact HC.out.1)
    go_simp
    exact hK _ _ (trivial) rfl (H.glob)
  case o4 =>
    intro L vs A W H hf hd K hK
    have e8 := H.is 3 8 rfl rfl rfl (deps_of' hd 3 (by kernel_rfl)) (by kernel_rfl)
    go_simp
    exact hK _ _ (trivial) rfl (H.glob)
  case o5 =>
    intro L vs A W H hf hd K hK
    have e0 : A.tmps[0]?.getD undef = .pointer (some ⟨rb, 0, none⟩) := H.old 0 (by kernel_rfl)
    go_simp
    exact hK _ _ (trivial) rfl (H.glob)
  case o6 =>
    intro L vs A W H hf hd K hK
    have e10 := H.is 5 10 rfl rfl rfl (deps_of' hd 5 (by kernel_rfl)) (by kernel_rfl)
    go_simp
    exact hK _ _ (trivial) rfl (H.glob)
  case o7 =>
    intro L vs A W H hf hd K hK
    have e11 := H.is 6 11 rfl rfl rfl (deps_of' hd 6 (by kernel_rfl)) (by kernel_rfl)
    go_simp
    exact hK _ _ (trivial) rfl (H.glob)
  case o8 =>
    intro L vs A W H hf hd K hK
    have e12 := H.is 7 12 rfl rfl rfl (deps_of' hd 7 (by kernel_rfl)) (by kernel_rfl)
    have d : W.cell? ⟨rb, 3, none⟩ = some (.int .i64 (k : Int)) := (by rw [H.glob]; exact HC.out.2)
    go_simp
    exact hK _ _ (trivial) rfl (H.glob)
  case o9 =>
    intro L vs A W H hf hd K hK
    have e9 := H.is 4 9 rfl rfl rfl (deps_of' hd 4 (by kernel_rfl)) (by kernel_rfl)
    have e13 := H.is 8 13 rfl rfl rfl (deps_of' hd 8 (by kernel_rfl)) (by kernel_rfl)
    have hw := HWr.out
    go_simp
    exact hK _ _ (trivial) rfl (H.glob)
  case o10 =>
    intro L vs A W H hf hd K hK
    have e14 := H.is 9 14 rfl rfl rfl (deps_of' hd 9 (by kernel_rfl)) (by kernel_rfl)
    go_simp
    exact hK _ _ (trivial) rfl (H.glob)
  case he =>
    intro vs W hlen hv
    match vs, hlen, hv with
    | [x0_, x1_, x2_, x3_, x4_, x5_, x6_, x7_, x8_, x9_, x10_], _, hv =>
    obtain rfl : (.pointer (some ⟨rb, 0, none⟩)) = x0_ := by obtain ⟨z, h1, h2⟩ := hv 0 _ rfl; cases h1; exact h2.symm
    obtain rfl : (.pointer (some ⟨rb, 0, none⟩)) = x1_ := by obtain ⟨z, h1, h2⟩ := hv 1 _ rfl; cases h1; exact h2.symm
    obtain rfl : (.pointer (some ⟨rb, 2, none⟩)) = x2_ := by obtain ⟨z, h1, h2⟩ := hv 2 _ rfl; cases h1; exact h2.symm
    obtain rfl : (.slice ga ln cap) = x3_ := by obtain ⟨z, h1, h2⟩ := hv 3 _ rfl; cases h1; exact h2.symm
    obtain rfl : (.int .i64 (ln : Int)) = x4_ := by obtain ⟨z, h1, h2⟩ := hv 4 _ rfl; cases h1; exact h2.symm
    obtain rfl : (.pointer (some ⟨rb, 0, none⟩)) = x5_ := by obtain ⟨z, h1, h2⟩ := hv 5 _ rfl; cases h1; exact h2.symm
    obtain rfl : (.pointer (some ⟨rb, 0, none⟩)) = x6_ := by obtain ⟨z, h1, h2⟩ := hv 6 _ rfl; cases h1; exact h2.symm
    obtain rfl : (.pointer (some ⟨rb, 3, none⟩)) = x7_ := by obtain ⟨z, h1, h2⟩ := hv 7 _ rfl; cases h1; exact h2.symm
    obtain rfl : (.int .i64 (k : Int)) = x8_ := by obtain ⟨z, h1, h2⟩ := hv 8 _ rfl; cases h1; exact h2.symm
    obtain rfl : (.int .i64 ((ln : Int) - (k : Int))) = x9_ := by obtain ⟨z, h1, h2⟩ := hv 9 _ rfl; cases h1; exact h2.symm
    obtain rfl : (.int .i64 ((ln : Int) - (k : Int))) = x10_ := by obtain ⟨z, h1, h2⟩ := hv 10 _ rfl; cases h1; exact h2.symm
    intro L hall hG
    clear hv hlen
    have HW := hG
    clear hG hall
    subst HW
    simp only [fill, if_true]
  --END
    simp [Act.put]
    go_wp2_with (fail)
    go_ret
    exact ⟨rfl, rfl⟩
set_option maxRecDepth 100000 in
set_option maxHeartbeats 16000000 in
theorem rstore_end0 (w : World) (rb mb cap ln : Nat) (ga : Option Addr) (r : Rn) (c : Int) (hb : Blk w rb (rnCells r) 41) (hmv : r.mv = some ⟨mb, 0, none⟩) (hcl : r.c = c) (hsl : r.sl = .slice ga ln cap) (hat : r.at_ = (ln : Int)) :
    Calls Try.prog 30 #[.pointer (some ⟨rb, 0, none⟩)] w fun e w' => e = .returned (.tuple #[.bool true, .int .i64 0]) ∧ Below w.heap.size w w' := by
  obtain ⟨W1, rfl⟩ : ∃ W1, W1 = w := ⟨_, rfl⟩
  obtain ⟨S, hS⟩ : ∃ S : Nat → Prop, S = NoB := ⟨_, rfl⟩
  have HSN := Lib.hid hS
  obtain ⟨k, hk⟩ : ∃ k, k = ln := ⟨_, rfl⟩
  have hat : r.at_ = (k : Int) := by rw [hat, hk]
  have Hc := Lib.hid (show ∀ W, Keeps S W1 W → ∀ j, W.cell? ⟨rb, j, none⟩ = (rnCells r)[j]? from fun W hk j => by rw [hk.cell (p := ⟨rb, j, none⟩) hb.lt (fun e => by rw [hS] at e; exact e)]; exact hb.cell j)
  have HR := Lib.hid (show (rnCells r)[0]? = some (.pointer (some ⟨mb, 0, none⟩)) ∧ (rnCells r)[1]? = some (.int .i64 c) ∧ (rnCells r)[2]? = some (.slice ga ln cap) ∧ (rnCells r)[3]? = some (.int .i64 (k : Int)) from ⟨by rw [← hmv]; rfl, by rw [← hcl]; rfl, by rw [← hsl]; rfl, by rw [← hat]; rfl⟩)
  obtain ⟨bq, hbq⟩ : ∃ bq, bq = true := ⟨_, rfl⟩
  have Hbq := Lib.hid (show ((k : Int) == (ln : Int)) = bq from by rw [hbq, hk]; exact beq_self_eq_true _)
  have HBq := Lib.hid hbq
  clear hb hmv hcl hsl hat hk hS hbq
  go_enter Try.func30, Try.ntmps30
  go_wp2_with (fail)
  --GEN r_rz1
  refine wp_region_vals [Is (.pointer (some ⟨rb, 0, none⟩)), Is (.pointer (some ⟨rb, 0, none⟩)), Is (.pointer (some ⟨rb, 3, none⟩)), Is (.int .i64 (k : Int)), Is (.pointer (some ⟨rb, 0, none⟩)), Is (.pointer (some ⟨rb, 0, none⟩)), Is (.pointer (some ⟨rb, 2, none⟩)), Is (.slice ga ln cap), Is (.int .i64 (ln : Int)), Is (.bool bq)]
    (fun _ _ _ => True) (fun _ W => Keeps S W1 W) (by kernel_rfl) (by kernel_rfl) (by kernel_rfl) ?hst ?h0 ⟨?o0, ?o1, ?o2, ?o3, ?o4, ?o5, ?o6, ?o7, ?o8, ?o9, trivial⟩ ?he
  case hst =>
    exact ⟨(fun _ _ _ _ _ _ h _ => h), (fun _ _ _ _ _ _ h _ => h), (fun _ _ _ _ _ _ h _ => h), (fun _ _ _ _ _ _ h _ => h), (fun _ _ _ _ _ _ h _ => h), (fun _ _ _ _ _ _ h _ => h), (fun _ _ _ _ _ _ h _ => h), (fun _ _ _ _ _ _ h _ => h), (fun _ _ _ _ _ _ h _ => h), (fun _ _ _ _ _ _ h _ => h), trivial⟩
  case h0 =>
    exact (Keeps.refl S W1).drew
  case o0 =>
    intro L vs A W H hf hd K hK
    have e0 : A.tmps[0]?.getD undef = .pointer (some ⟨rb, 0, none⟩) := H.old 0 (by kernel_rfl)
    go_simp
    exact hK _ _ (trivial) rfl (H.glob)
  case o1 =>
    intro L vs A W H hf hd K hK
    have e6 := H.is 0 6 rfl rfl rfl (deps_of' hd 0 (by kernel_rfl)) (by kernel_rfl)
    go_simp
    exact hK _ _ (trivial) rfl (H.glob)
  case o2 =>
    intro L vs A W H hf hd K hK
    have e7 := H.is 1 7 rfl rfl rfl (deps_of' hd 1 (by kernel_rfl)) (by kernel_rfl)
    go_simp
    exact hK _ _ (trivial) rfl (H.glob)
  case o3 =>
    intro L vs A W H hf hd K hK
    have e8 := H.is 2 8 rfl rfl rfl (deps_of' hd 2 (by kernel_rfl)) (by kernel_rfl)
    have d : W.cell? ⟨rb, 3, none⟩ = some (.int .i64 (k : Int)) := (Hc.out W H.glob 3).trans HR.out.2.2.2
    go_simp
    exact hK _ _ (trivial) rfl (H.glob)
  case o4 =>
    intro L vs A W H hf hd K hK
    have e0 : A.tmps[0]?.getD undef = .pointer (some ⟨rb, 0, none⟩) := H.old 0 (by kernel_rfl)
    go_simp
    exact hK _ _ (trivial) rfl (H.glob)
  case o5 =>
    intro L vs A W H hf hd K hK
    have e10 := H.is 4 10 rfl rfl rfl (deps_of' hd 4 (by kernel_rfl)) (by kernel_rfl)
    go_simp
    exact hK _ _ (trivial) rfl (H.glob)
  case o6 =>
    intro L vs A W H hf hd K hK
    have e11 := H.is 5 11 rfl rfl rfl (deps_of' hd 5 (by kernel_rfl)) (by kernel_rfl)
    go_simp
    exact hK _ _ (trivial) rfl (H.glob)
  case o7 =>
    intro L vs A W H hf hd K hK
    have e12 := H.is 6 12 rfl rfl rfl (deps_of' hd 6 (by kernel_rfl)) (by kernel_rfl)
    have d : W.cell? ⟨rb, 2, none⟩ = some (.slice ga ln cap) := (Hc.out W H.glob 2).trans HR.out.2.2.1
    go_simp
    exact hK _ _ (trivial) rfl (H.glob)
  case o8 =>
    intro L vs A W H hf hd K hK
    have e13 := H.is 7 13 rfl rfl rfl (deps_of' hd 7 (by kernel_rfl)) (by kernel_rfl)
    go_simp
    exact hK _ _ (trivial) rfl (H.glob)
  case o9 =>
    intro L vs A W H hf hd K hK
    have e9 := H.is 3 9 rfl rfl rfl (deps_of' hd 3 (by kernel_rfl)) (by kernel_rfl)
    have e14 := H.is 8 14 rfl rfl rfl (deps_of' hd 8 (by kernel_rfl)) (by kernel_rfl)
    have hq := Hbq.out
    go_simp
    exact hK _ _ (trivial) rfl (H.glob)
  case he =>
    intro vs W hlen hv
    match vs, hlen, hv with
    | [x0_, x1_, x2_, x3_, x4_, x5_, x6_, x7_, x8_, x9_], _, hv =>
    obtain rfl : (.pointer (some ⟨rb, 0, none⟩)) = x0_ := by obtain ⟨z, h1, h2⟩ := hv 0 _ rfl; cases h1; exact h2.symm
    obtain rfl : (.pointer (some ⟨rb, 0, none⟩)) = x1_ := by obtain ⟨z, h1, h2⟩ := hv 1 _ rfl; cases h1; exact h2.symm
    obtain rfl : (.pointer (some ⟨rb, 3, none⟩)) = x2_ := by obtain ⟨z, h1, h2⟩ := hv 2 _ rfl; cases h1; exact h2.symm
    obtain rfl : (.int .i64 (k : Int)) = x3_ := by obtain ⟨z, h1, h2⟩ := hv 3 _ rfl; cases h1; exact h2.symm
    obtain rfl : (.pointer (some ⟨rb, 0, none⟩)) = x4_ := by obtain ⟨z, h1, h2⟩ := hv 4 _ rfl; cases h1; exact h2.symm
    obtain rfl : (.pointer (some ⟨rb, 0, none⟩)) = x5_ := by obtain ⟨z, h1, h2⟩ := hv 5 _ rfl; cases h1; exact h2.symm
    obtain rfl : (.pointer (some ⟨rb, 2, none⟩)) = x6_ := by obtain ⟨z, h1, h2⟩ := hv 6 _ rfl; cases h1; exact h2.symm
    obtain rfl : (.slice ga ln cap) = x7_ := by obtain ⟨z, h1, h2⟩ := hv 7 _ rfl; cases h1; exact h2.symm
    obtain rfl : (.int .i64 (ln : Int)) = x8_ := by obtain ⟨z, h1, h2⟩ := hv 8 _ rfl; cases h1; exact h2.symm
    obtain rfl : (.bool bq) = x9_ := by obtain ⟨z, h1, h2⟩ := hv 9 _ rfl; cases h1; exact h2.symm
    intro L hall hG
    clear hv hlen
    have HG := Lib.hid hG
    clear hG hall
    simp only [fill, if_true]
  --END
    simp [Act.put]
    have hB := HG.out
    rw [HSN.out] at hB
    have HB := Lib.hid hB.below
    clear hB HG
    rw [HBq.out]
    go_wp2_with (fail)
    go_ret2
    exact ⟨rfl, HB.out⟩
set_option maxRecDepth 100000 in
set_option maxHeartbeats 40000000 in
theorem rstore_no (w : World) (rb mb g cap : Nat) (S0 : Nat → Prop) (r : Rn) (l : List (Int × Int)) (c k : Nat) (vw is : List Int) (mk : Int → Nat → Int) (F : Int → List (Int × Int)) (lo st fl fe : Int)
    (h : RnS w rb mb g cap S0 r l c) (hm : MemP w mb S0 vw is mk F lo st fl fe) (hat : r.at_ = (k : Int)) (hk : k < l.length) (hl : l.length ≤ 1000000) (hb : ∀ i, i < l.length → 0 ≤ eK l i ∧ eK l i ≤ 18446744073709551615) (he : atE vw.length (eK l k) = 3) :
    Calls Try.prog 30 #[.pointer (some ⟨rb, 0, none⟩)] w fun e w' => e = .returned (.tuple #[.bool true, .int .i64 3]) ∧ Keeps NoB w w' := by
  obtain ⟨W1, rfl⟩ : ∃ W1, W1 = w := ⟨_, rfl⟩
  obtain ⟨ln, hln⟩ : ∃ ln, l.length = ln := ⟨_, rfl⟩
  obtain ⟨ad, had⟩ : ∃ ad, eK l k = ad := ⟨_, rfl⟩
  obtain ⟨x, hx⟩ : ∃ x, eP l k = x := ⟨_, rfl⟩
  have hck := h.e k hk
  rw [Nat.zero_add, had, hx] at hck
  have hbk := hb k hk
  rw [had] at hbk
  have HRS := Lib.hid h
  have HM := Lib.hid hm
  have HBd := Lib.hid hb
  have HE := Lib.hid he
  have HX := Lib.hid (And.intro had hx)
  obtain ⟨S, hS⟩ : ∃ S : Nat → Prop, S = NoB := ⟨_, rfl⟩
  have HSN := Lib.hid hS
  have Hc := Lib.hid (show ∀ W, Keeps S W1 W → ∀ j, W.cell? ⟨rb, j, none⟩ = (rnCells r)[j]? from fun W hk j => by rw [hk.cell (p := ⟨rb, j, none⟩) h.b.lt (fun e => by rw [hS] at e; exact e)]; exact h.b.cell j)
  have HR := Lib.hid (show (rnCells r)[0]? = some (.pointer (some ⟨mb, 0, none⟩)) ∧ (rnCells r)[1]? = some (.int .i64 (c : Int)) ∧ (rnCells r)[2]? = some (.slice (some ⟨g, 0, none⟩) ln cap) ∧ (rnCells r)[3]? = some (.int .i64 (k : Int)) from ⟨by rw [← h.mv]; rfl, by rw [← h.cl]; rfl, by rw [← hln, ← h.sl]; rfl, by rw [← hat]; rfl⟩)
  obtain ⟨bq, hbq⟩ : ∃ bq, bq = false := ⟨_, rfl⟩
  have Hbq := Lib.hid (show ((k : Int) == (ln : Int)) = bq from by rw [hbq]; exact beq_eq_false_iff_ne.2 (by omega))
  have HBq := Lib.hid hbq
  have HKl := Lib.hid (show k < ln ∧ ln ≤ 1000000 from by omega)
  have HLn := Lib.hid hln
  have HAt := Lib.hid hat
  have HCk0 := Lib.hid hck
  have HBk := Lib.hid hbk
  clear h hm hat hk hl hb he hln had hx hck hbk hS hbq
  go_enter Try.func30, Try.ntmps30
  go_wp2_with (fail)
  --GEN r_rs1
  refine wp_region_vals [Is (.pointer (some ⟨rb, 0, none⟩)), Is (.pointer (some ⟨rb, 0, none⟩)), Is (.pointer (some ⟨rb, 3, none⟩)), Is (.int .i64 (k : Int)), Is (.pointer (some ⟨rb, 0, none⟩)), Is (.pointer (some ⟨rb, 0, none⟩)), Is (.pointer (some ⟨rb, 2, none⟩)), Is (.slice (some ⟨g, 0, none⟩) ln cap), Is (.int .i64 (ln : Int)), Is (.bool bq)]
    (fun _ _ _ => True) (fun _ W => Keeps S W1 W) (by kernel_rfl) (by kernel_rfl) (by kernel_rfl) ?hst ?h0 ⟨?o0, ?o1, ?o2, ?o3, ?o4, ?o5, ?o6, ?o7, ?o8, ?o9, trivial⟩ ?he
  case hst =>
    exact ⟨(fun _ _ _ _ _ _ h _ => h), (fun _ _ _ _ _ _ h _ => h), (fun _ _ _ _ _ _ h _ => h), (fun _ _ _ _ _ _ h _ => h), (fun _ _ _ _ _ _ h _ => h), (fun _ _ _ _ _ _ h _ => h), (fun _ _ _ _ _ _ h _ => h), (fun _ _ _ _ _ _ h _ => h), (fun _ _ _ _ _ _ h _ => h), (fun _ _ _ _ _ _ h _ => h), trivial⟩
  case h0 =>
    exact (Keeps.refl S W1).drew
  case o0 =>
    intro L vs A W H hf hd K hK
    have e0 : A.tmps[0]?.getD undef = .pointer (some ⟨rb, 0, none⟩) := H.old 0 (by kernel_rfl)
    go_simp
    exact hK _ _ (trivial) rfl (H.glob)
  case o1 =>
    intro L vs A W H hf hd K hK
    have e6 := H.is 0 6 rfl rfl rfl (deps_of' hd 0 (by kernel_rfl)) (by kernel_rfl)
    go_simp
    exact hK _ _ (trivial) rfl (H.glob)
  case o2 =>
    intro L vs A W H hf hd K hK
    have e7 := H.is 1 7 rfl rfl rfl (deps_of' hd 1 (by kernel_rfl)) (by kernel_rfl)
    go_simp
    exact hK _ _ (trivial) rfl (H.glob)
  case o3 =>
    intro L vs A W H hf hd K hK
    have e8 := H.is 2 8 rfl rfl rfl (deps_of' hd 2 (by kernel_rfl)) (by kernel_rfl)
    have d : W.cell? ⟨rb, 3, none⟩ = some (.int .i64 (k : Int)) := (Hc.out W H.glob 3).trans HR.out.2.2.2
    go_simp
    exact hK _ _ (trivial) rfl (H.glob)
  case o4 =>
    intro L vs A W H hf hd K hK
    have e0 : A.tmps[0]?.getD undef = .pointer (some ⟨rb, 0, none⟩) := H.old 0 (by kernel_rfl)
    go_simp
    exact hK _ _ (trivial) rfl (H.glob)
  case o5 =>
    intro L vs A W H hf hd K hK
    have e10 := H.is 4 10 rfl rfl rfl (deps_of' hd 4 (by kernel_rfl)) (by kernel_rfl)
    go_simp
    exact hK _ _ (trivial) rfl (H.glob)
  case o6 =>
    intro L vs A W H hf hd K hK
    have e11 := H.is 5 11 rfl rfl rfl (deps_of' hd 5 (by kernel_rfl)) (by kernel_rfl)
    go_simp
    exact hK _ _ (trivial) rfl (H.glob)
  case o7 =>
    intro L vs A W H hf hd K hK
    have e12 := H.is 6 12 rfl rfl rfl (deps_of' hd 6 (by kernel_rfl)) (by kernel_rfl)
    have d : W.cell? ⟨rb, 2, none⟩ = some (.slice (some ⟨g, 0, none⟩) ln cap) := (Hc.out W H.glob 2).trans HR.out.2.2.1
    go_simp
    exact hK _ _ (trivial) rfl (H.glob)
  case o8 =>
    intro L vs A W H hf hd K hK
    have e13 := H.is 7 13 rfl rfl rfl (deps_of' hd 7 (by kernel_rfl)) (by kernel_rfl)
    go_simp
    exact hK _ _ (trivial) rfl (H.glob)
  case o9 =>
    intro L vs A W H hf hd K hK
    have e9 := H.is 3 9 rfl rfl rfl (deps_of' hd 3 (by kernel_rfl)) (by kernel_rfl)
    have e14 := H.is 8 14 rfl rfl rfl (deps_of' hd 8 (by kernel_rfl)) (by kernel_rfl)
    have hq := Hbq.out
    go_simp
    exact hK _ _ (trivial) rfl (H.glob)
  case he =>
    intro vs W hlen hv
    match vs, hlen, hv with
    | [x0_, x1_, x2_, x3_, x4_, x5_, x6_, x7_, x8_, x9_], _, hv =>
    obtain rfl : (.pointer (some ⟨rb, 0, none⟩)) = x0_ := by obtain ⟨z, h1, h2⟩ := hv 0 _ rfl; cases h1; exact h2.symm
    obtain rfl : (.pointer (some ⟨rb, 0, none⟩)) = x1_ := by obtain ⟨z, h1, h2⟩ := hv 1 _ rfl; cases h1; exact h2.symm
    obtain rfl : (.pointer (some ⟨rb, 3, none⟩)) = x2_ := by obtain ⟨z, h1, h2⟩ := hv 2 _ rfl; cases h1; exact h2.symm
    obtain rfl : (.int .i64 (k : Int)) = x3_ := by obtain ⟨z, h1, h2⟩ := hv 3 _ rfl; cases h1; exact h2.symm
    obtain rfl : (.pointer (some ⟨rb, 0, none⟩)) = x4_ := by obtain ⟨z, h1, h2⟩ := hv 4 _ rfl; cases h1; exact h2.symm
    obtain rfl : (.pointer (some ⟨rb, 0, none⟩)) = x5_ := by obtain ⟨z, h1, h2⟩ := hv 5 _ rfl; cases h1; exact h2.symm
    obtain rfl : (.pointer (some ⟨rb, 2, none⟩)) = x6_ := by obtain ⟨z, h1, h2⟩ := hv 6 _ rfl; cases h1; exact h2.symm
    obtain rfl : (.slice (some ⟨g, 0, none⟩) ln cap) = x7_ := by obtain ⟨z, h1, h2⟩ := hv 7 _ rfl; cases h1; exact h2.symm
    obtain rfl : (.int .i64 (ln : Int)) = x8_ := by obtain ⟨z, h1, h2⟩ := hv 8 _ rfl; cases h1; exact h2.symm
    obtain rfl : (.bool bq) = x9_ := by obtain ⟨z, h1, h2⟩ := hv 9 _ rfl; cases h1; exact h2.symm
    intro L hall hG
    clear hv hlen
    have HG := Lib.hid hG
    clear hG hall
    simp only [fill, if_true]
  --END
    simp [Act.put]
    have hk1 := HG.out
    rw [HSN.out] at hk1
    have HK1 := Lib.hid hk1
    clear hk1 HG
    rw [HBq.out]
    go_wp2_with (fail)
    obtain ⟨W3, hW3⟩ : ∃ W3, W = W3 := ⟨_, rfl⟩
    rw [hW3] at HK1 ⊢
    clear hW3
    obtain ⟨pb, hpb⟩ : ∃ pb, W3.heap.size = pb := ⟨_, rfl⟩
    have Hpb := Lib.hid hpb
    have Hc := Lib.hid (show ∀ W, Keeps NoB W3 W → ∀ j, W.cell? ⟨rb, j, none⟩ = (rnCells r)[j]? from fun W hk j => by rw [(HK1.out.trans hk).cell (p := ⟨rb, j, none⟩) HRS.out.b.lt (fun h => h)]; exact HRS.out.b.cell j)
    have HCk := Lib.hid (show ∀ W, Keeps NoB W3 W → ∀ j v, (#[Value.int .u64 ad, Value.int .u64 x] : Array Value)[j]? = some v → W.cell? ⟨g, k * 2 + j, none⟩ = some v from fun W hk j v hv => by
      rw [(HK1.out.trans hk).cell (p := ⟨g, k * 2 + j, none⟩) HRS.out.glt (fun h => h)]
      have hj : j < 2 := (Array.getElem?_eq_some_iff.1 hv).1
      have : j = 0 ∨ j = 1 := by omega
      rcases this with rfl | rfl
      · cases hv; exact HCk0.out.1
      · cases hv; exact HCk0.out.2)
    have Hb1 := Lib.hid (show (0 : Int) ≤ (k : Int) from by omega)
    have Hb2 := Lib.hid (show (k : Int) < (ln : Int) from by have := HKl.out; omega)
    --GEN r_rs3
    refine wp_region_vals [Is (.pointer (some ⟨rb, 0, none⟩)), Is (.pointer (some ⟨rb, 0, none⟩)), Is (.pointer (some ⟨rb, 2, none⟩)), Is (.slice (some ⟨g, 0, none⟩) ln cap), Is (.pointer (some ⟨rb, 0, none⟩)), Is (.pointer (some ⟨rb, 0, none⟩)), Is (.pointer (some ⟨rb, 3, none⟩)), Is (.int .i64 (k : Int)), Is (.pointer (some ⟨g, k * 2, none⟩)), Is (.agg #[.int .u64 ad, .int .u64 x]), Is (.pointer (some ⟨pb, 0, none⟩)), Any]
      (fun _ _ _ => True) (fun L W => StS W3 pb ad x L W) (by kernel_rfl) (by kernel_rfl) (by kernel_rfl) ?hst ?h0 ⟨?o0, ?o1, ?o2, ?o3, ?o4, ?o5, ?o6, ?o7, ?o8, ?o9, ?o10, ?o11, trivial⟩ ?he
    case hst =>
      exact ⟨(fun _ _ _ _ _ _ h _ => h), (fun _ _ _ _ _ _ h _ => h), (fun _ _ _ _ _ _ h _ => h), (fun _ _ _ _ _ _ h _ => h), (fun _ _ _ _ _ _ h _ => h), (fun _ _ _ _ _ _ h _ => h), (fun _ _ _ _ _ _ h _ => h), (fun _ _ _ _ _ _ h _ => h), (fun _ _ _ _ _ _ h _ => h), (fun _ _ _ _ _ _ h _ => h), (fun _ _ _ _ _ _ h _ => h), (fun _ _ _ _ _ _ h _ => h), trivial⟩
    case h0 =>
      exact StS.start W3 pb ad x Hpb.out
    case o0 =>
      intro L vs A W H hf hd K hK
      have e0 : A.tmps[0]?.getD undef = .pointer (some ⟨rb, 0, none⟩) := H.old 0 (by kernel_rfl)
      go_simp
      exact hK _ _ (trivial) rfl (H.glob.keep rfl rfl)
    case o1 =>
      intro L vs A W H hf hd K hK
      have e16 := H.is 0 16 rfl rfl rfl (deps_of' hd 0 (by kernel_rfl)) (by kernel_rfl)
      go_simp
      exact hK _ _ (trivial) rfl (H.glob.keep rfl rfl)
    case o2 =>
      intro L vs A W H hf hd K hK
      have e17 := H.is 1 17 rfl rfl rfl (deps_of' hd 1 (by kernel_rfl)) (by kernel_rfl)
      go_simp
      exact hK _ _ (trivial) rfl (H.glob.keep rfl rfl)
    case o3 =>
      intro L vs A W H hf hd K hK
      have e18 := H.is 2 18 rfl rfl rfl (deps_of' hd 2 (by kernel_rfl)) (by kernel_rfl)
      have d : W.cell? ⟨rb, 2, none⟩ = some (.slice (some ⟨g, 0, none⟩) ln cap) := (Hc.out W H.glob.kp 2).trans HR.out.2.2.1
      go_simp
      exact hK _ _ (trivial) rfl (H.glob.keep rfl rfl)
    case o4 =>
      intro L vs A W H hf hd K hK
      have e0 : A.tmps[0]?.getD undef = .pointer (some ⟨rb, 0, none⟩) := H.old 0 (by kernel_rfl)
      go_simp
      exact hK _ _ (trivial) rfl (H.glob.keep rfl rfl)
    case o5 =>
      intro L vs A W H hf hd K hK
      have e20 := H.is 4 20 rfl rfl rfl (deps_of' hd 4 (by kernel_rfl)) (by kernel_rfl)
      go_simp
      exact hK _ _ (trivial) rfl (H.glob.keep rfl rfl)
    case o6 =>
      intro L vs A W H hf hd K hK
      have e21 := H.is 5 21 rfl rfl rfl (deps_of' hd 5 (by kernel_rfl)) (by kernel_rfl)
      go_simp
      exact hK _ _ (trivial) rfl (H.glob.keep rfl rfl)
    case o7 =>
      intro L vs A W H hf hd K hK
      have e22 := H.is 6 22 rfl rfl rfl (deps_of' hd 6 (by kernel_rfl)) (by kernel_rfl)
      have d : W.cell? ⟨rb, 3, none⟩ = some (.int .i64 (k : Int)) := (Hc.out W H.glob.kp 3).trans HR.out.2.2.2
      go_simp
      exact hK _ _ (trivial) rfl (H.glob.keep rfl rfl)
    case o8 =>
      intro L vs A W H hf hd K hK
      have e19 := H.is 3 19 rfl rfl rfl (deps_of' hd 3 (by kernel_rfl)) (by kernel_rfl)
      have e23 := H.is 7 23 rfl rfl rfl (deps_of' hd 7 (by kernel_rfl)) (by kernel_rfl)
      have hb1 := Hb1.out
      have hb2 := Hb2.out
      go_simp
      exact hK _ _ (trivial) rfl (H.glob.keep rfl rfl)
    case o9 =>
      intro L vs A W H hf hd K hK
      have e24 := H.is 8 24 rfl rfl rfl (deps_of' hd 8 (by kernel_rfl)) (by kernel_rfl)
      exact wp_ld_part 25 (.tmp 24) rfl g (k * 2) (ev_tmp e24) #[.int .u64 ad, .int .u64 x] _ (HCk.out W H.glob.kp) Try.underlying25 rfl (by kernel_rfl) (hK _ _ trivial rfl (H.glob.keep rfl rfl))
    case o10 =>
      intro L vs A W H hf hd K hK
      have n11 := H.notYet 11 10 rfl hf (by kernel_rfl)
      have hW := H.glob.n hf
      subst hW
      go_simp
      exact hK _ _ trivial rfl (StS.alloc H.glob n11)
    case o11 =>
      intro L vs A W H hf hd K hK
      have e4 := H.is 10 4 rfl rfl rfl (deps_of' hd 10 (by kernel_rfl)) (by kernel_rfl)
      have e25 := H.is 9 25 rfl rfl rfl (deps_of' hd 9 (by kernel_rfl)) (by kernel_rfl)
      exact wp_store_row 25 (.tmp 4) (.tmp 25) rfl pb #[.int .u64 ad, .int .u64 x] (ev_tmp e4) (ev_tmp e25) 25 #[.int .u64 0, .int .u64 0] (H.glob.blk hf (deps_of' hd 10 (by kernel_rfl))) (by kernel_rfl) rfl (by simp [Value.oneCell']) (hK undef _ trivial trivial (StS.store H.glob hf (deps_of' hd 10 (by kernel_rfl))))
    case he =>
      intro vs W hlen hv
      match vs, hlen, hv with
      | [x0_, x1_, x2_, x3_, x4_, x5_, x6_, x7_, x8_, x9_, x10_, x11_], _, hv =>
      obtain rfl : (.pointer (some ⟨rb, 0, none⟩)) = x0_ := by obtain ⟨z, h1, h2⟩ := hv 0 _ rfl; cases h1; exact h2.symm
      obtain rfl : (.pointer (some ⟨rb, 0, none⟩)) = x1_ := by obtain ⟨z, h1, h2⟩ := hv 1 _ rfl; cases h1; exact h2.symm
      obtain rfl : (.pointer (some ⟨rb, 2, none⟩)) = x2_ := by obtain ⟨z, h1, h2⟩ := hv 2 _ rfl; cases h1; exact h2.symm
      obtain rfl : (.slice (some ⟨g, 0, none⟩) ln cap) = x3_ := by obtain ⟨z, h1, h2⟩ := hv 3 _ rfl; cases h1; exact h2.symm
      obtain rfl : (.pointer (some ⟨rb, 0, none⟩)) = x4_ := by obtain ⟨z, h1, h2⟩ := hv 4 _ rfl; cases h1; exact h2.symm
      obtain rfl : (.pointer (some ⟨rb, 0, none⟩)) = x5_ := by obtain ⟨z, h1, h2⟩ := hv 5 _ rfl; cases h1; exact h2.symm
      obtain rfl : (.pointer (some ⟨rb, 3, none⟩)) = x6_ := by obtain ⟨z, h1, h2⟩ := hv 6 _ rfl; cases h1; exact h2.symm
      obtain rfl : (.int .i64 (k : Int)) = x7_ := by obtain ⟨z, h1, h2⟩ := hv 7 _ rfl; cases h1; exact h2.symm
      obtain rfl : (.pointer (some ⟨g, k * 2, none⟩)) = x8_ := by obtain ⟨z, h1, h2⟩ := hv 8 _ rfl; cases h1; exact h2.symm
      obtain rfl : (.agg #[.int .u64 ad, .int .u64 x]) = x9_ := by obtain ⟨z, h1, h2⟩ := hv 9 _ rfl; cases h1; exact h2.symm
      obtain rfl : (.pointer (some ⟨pb, 0, none⟩)) = x10_ := by obtain ⟨z, h1, h2⟩ := hv 10 _ rfl; cases h1; exact h2.symm
      intro L hall hG
      clear hv hlen
      have HG := Lib.hid (hG.y2 (hall 11 (by decide)))
      clear hG hall
      simp only [fill, if_true]
    --END
      simp [Act.put]
      have hk13 : Keeps NoB W3 W := by
        rw [HG.out]
        exact keeps_setRow (((Keeps.refl NoB W3).drew).alloc _) (.inr (Nat.le_of_eq hpb)) _
      have hbp : Blk W pb #[.int .u64 ad, .int .u64 x] 25 := by
        rw [HG.out, ← hpb]
        exact (Blk.new W3.drew #[.int .u64 0, .int .u64 0] 25).row _
      obtain ⟨W4, hW4⟩ : ∃ W4, W = W4 := ⟨_, rfl⟩
      rw [hW4] at hk13 hbp ⊢
      have HK4 := Lib.hid (HK1.out.trans hk13)
      have HBp := Lib.hid hbp
      have hM4 := HM.out.keptN HK4.out
      have HRb4 := Lib.hid (HRS.out.b.kept HK4.out (fun h => h))
      have HPn := Lib.hid (show ¬ S0 pb ∧ rb ≠ pb ∧ g ≠ pb from ⟨fun h => by have := HM.out.lt h; have := HK1.out.size; omega, by have := HRS.out.b.lt; have := HK1.out.size; omega, by have := HRS.out.glt; have := HK1.out.size; omega⟩)
      have HPs := Lib.hid (show W1.heap.size ≤ pb from by rw [← hpb]; exact HK1.out.size)
      clear hW4 hk13 hbp HG Hc HCk Hb1 Hb2 hpb Hpb HK1 HR
      obtain ⟨S, hS⟩ : ∃ S : Nat → Prop, S = S0 := ⟨_, rfl⟩
      have HS0 := Lib.hid hS
      have Hc := Lib.hid (show ∀ W, Keeps S W4 W → ∀ j, W.cell? ⟨rb, j, none⟩ = (rnCells r)[j]? from fun W hk j => by rw [hk.cell (p := ⟨rb, j, none⟩) HRb4.out.lt (by rw [hS]; exact HRS.out.s.1)]; exact HRb4.out.cell j)
      have HR := Lib.hid (show (rnCells r)[0]? = some (.pointer (some ⟨mb, 0, none⟩)) from by rw [← HRS.out.mv]; rfl)
      have HPc := Lib.hid (show ∀ W, Keeps S W4 W → W.cell? ⟨pb, 0, none⟩ = some (.int .u64 ad) ∧ W.cell? ⟨pb, 1, none⟩ = some (.int .u64 x) from fun W hk => ⟨by rw [hk.cell (p := ⟨pb, 0, none⟩) HBp.out.lt (by rw [hS]; exact HPn.out.1)]; exact HBp.out.cell 0, by rw [hk.cell (p := ⟨pb, 1, none⟩) HBp.out.lt (by rw [hS]; exact HPn.out.1)]; exact HBp.out.cell 1⟩)
      have HSt := Lib.hid (show Calls Try.prog 43 #[.pointer (some ⟨mb, 0, none⟩), .int .u64 ad, .int .u64 x] W4.drew fun e w' => e = .returned (.int .i64 3) ∧ W4.drew = w' from by
        have he := HE.out
        rw [HX.out.1] at he
        exact store_no (hM4.below (Below.refl _ W4).drew) ad x HBk.out.1 HBk.out.2 he)
      clear hS hM4
      go_wp2_with (fail)
      --GEN r_rs4n
      refine wp_region_vals [Is (.pointer (some ⟨rb, 0, none⟩)), Is (.pointer (some ⟨rb, 0, none⟩)), Is (.pointer (some ⟨rb, 0, none⟩)), Is (.pointer (some ⟨mb, 0, none⟩)), Is (.pointer (some ⟨pb, 0, none⟩)), Is (.int .u64 ad), Is (.pointer (some ⟨pb, 1, none⟩)), Is (.int .u64 x), Is (.int .i64 3), Is (.int .i64 3)]
        (fun _ _ _ => True) (fun L W => StC W4 (fun W => W = W4.drew) S 8 L W) (by kernel_rfl) (by kernel_rfl) (by kernel_rfl) ?hst ?h0 ⟨?o0, ?o1, ?o2, ?o3, ?o4, ?o5, ?o6, ?o7, ?o8, ?o9, trivial⟩ ?he
      case hst =>
        exact ⟨(fun _ _ _ _ _ _ h _ => h), (fun _ _ _ _ _ _ h _ => h), (fun _ _ _ _ _ _ h _ => h), (fun _ _ _ _ _ _ h _ => h), (fun _ _ _ _ _ _ h _ => h), (fun _ _ _ _ _ _ h _ => h), (fun _ _ _ _ _ _ h _ => h), (fun _ _ _ _ _ _ h _ => h), (fun _ _ _ _ _ _ h _ => h), (fun _ _ _ _ _ _ h _ => h), trivial⟩
      case h0 =>
        exact ⟨fun _ => rfl, fun e => (by cases e), (Keeps.refl _ _).drew⟩
      case o0 =>
        intro L vs A W H hf hd K hK
        have e0 : A.tmps[0]?.getD undef = .pointer (some ⟨rb, 0, none⟩) := H.old 0 (by kernel_rfl)
        go_simp
        exact hK _ _ (trivial) rfl (H.glob.keep rfl)
      case o1 =>
        intro L vs A W H hf hd K hK
        have e26 := H.is 0 26 rfl rfl rfl (deps_of' hd 0 (by kernel_rfl)) (by kernel_rfl)
        go_simp
        exact hK _ _ (trivial) rfl (H.glob.keep rfl)
      case o2 =>
        intro L vs A W H hf hd K hK
        have e27 := H.is 1 27 rfl rfl rfl (deps_of' hd 1 (by kernel_rfl)) (by kernel_rfl)
        go_simp
        exact hK _ _ (trivial) rfl (H.glob.keep rfl)
      case o3 =>
        intro L vs A W H hf hd K hK
        have e28 := H.is 2 28 rfl rfl rfl (deps_of' hd 2 (by kernel_rfl)) (by kernel_rfl)
        have d : W.cell? ⟨rb, 0, none⟩ = some (.pointer (some ⟨mb, 0, none⟩)) := (Hc.out W H.glob.k 0).trans HR.out
        go_simp
        exact hK _ _ (trivial) rfl (H.glob.keep rfl)
      case o4 =>
        intro L vs A W H hf hd K hK
        have e4 : A.tmps[4]?.getD undef = .pointer (some ⟨pb, 0, none⟩) := H.old 4 (by kernel_rfl)
        go_simp
        exact hK _ _ (trivial) rfl (H.glob.keep rfl)
      case o5 =>
        intro L vs A W H hf hd K hK
        have e30 := H.is 4 30 rfl rfl rfl (deps_of' hd 4 (by kernel_rfl)) (by kernel_rfl)
        have d : W.cell? ⟨pb, 0, none⟩ = some (.int .u64 ad) := (HPc.out W H.glob.k).1
        go_simp
        exact hK _ _ (trivial) rfl (H.glob.keep rfl)
      case o6 =>
        intro L vs A W H hf hd K hK
        have e4 : A.tmps[4]?.getD undef = .pointer (some ⟨pb, 0, none⟩) := H.old 4 (by kernel_rfl)
        go_simp
        exact hK _ _ (trivial) rfl (H.glob.keep rfl)
      case o7 =>
        intro L vs A W H hf hd K hK
        have e32 := H.is 6 32 rfl rfl rfl (deps_of' hd 6 (by kernel_rfl)) (by kernel_rfl)
        have d : W.cell? ⟨pb, 1, none⟩ = some (.int .u64 x) := (HPc.out W H.glob.k).2
        go_simp
        exact hK _ _ (trivial) rfl (H.glob.keep rfl)
      case o8 =>
        intro L vs A W H hf hd K hK
        have e29 := H.is 3 29 rfl rfl rfl (deps_of' hd 3 (by kernel_rfl)) (by kernel_rfl)
        have e31 := H.is 5 31 rfl rfl rfl (deps_of' hd 5 (by kernel_rfl)) (by kernel_rfl)
        have e33 := H.is 7 33 rfl rfl rfl (deps_of' hd 7 (by kernel_rfl)) (by kernel_rfl)
        have hW := H.glob.n hf
        subst hW
        go_simp
        refine HSt.out.mono ?_
        rintro e w' ⟨rfl, hI⟩
        subst hI
        go_simp
        exact hK _ _ trivial rfl ⟨fun e => (by simp [lset] at e), fun _ => rfl, (Keeps.refl _ W4).drew⟩
      case o9 =>
        intro L vs A W H hf hd K hK
        have e34 := H.is 8 34 rfl rfl rfl (deps_of' hd 8 (by kernel_rfl)) (by kernel_rfl)
        go_simp
        exact hK _ _ (trivial) rfl (H.glob.keep rfl)
      case he =>
        intro vs W hlen hv
        match vs, hlen, hv with
        | [x0_, x1_, x2_, x3_, x4_, x5_, x6_, x7_, x8_, x9_], _, hv =>
        obtain rfl : (.pointer (some ⟨rb, 0, none⟩)) = x0_ := by obtain ⟨z, h1, h2⟩ := hv 0 _ rfl; cases h1; exact h2.symm
        obtain rfl : (.pointer (some ⟨rb, 0, none⟩)) = x1_ := by obtain ⟨z, h1, h2⟩ := hv 1 _ rfl; cases h1; exact h2.symm
        obtain rfl : (.pointer (some ⟨rb, 0, none⟩)) = x2_ := by obtain ⟨z, h1, h2⟩ := hv 2 _ rfl; cases h1; exact h2.symm
        obtain rfl : (.pointer (some ⟨mb, 0, none⟩)) = x3_ := by obtain ⟨z, h1, h2⟩ := hv 3 _ rfl; cases h1; exact h2.symm
        obtain rfl : (.pointer (some ⟨pb, 0, none⟩)) = x4_ := by obtain ⟨z, h1, h2⟩ := hv 4 _ rfl; cases h1; exact h2.symm
        obtain rfl : (.int .u64 ad) = x5_ := by obtain ⟨z, h1, h2⟩ := hv 5 _ rfl; cases h1; exact h2.symm
        obtain rfl : (.pointer (some ⟨pb, 1, none⟩)) = x6_ := by obtain ⟨z, h1, h2⟩ := hv 6 _ rfl; cases h1; exact h2.symm
        obtain rfl : (.int .u64 x) = x7_ := by obtain ⟨z, h1, h2⟩ := hv 7 _ rfl; cases h1; exact h2.symm
        obtain rfl : (.int .i64 3) = x8_ := by obtain ⟨z, h1, h2⟩ := hv 8 _ rfl; cases h1; exact h2.symm
        obtain rfl : (.int .i64 3) = x9_ := by obtain ⟨z, h1, h2⟩ := hv 9 _ rfl; cases h1; exact h2.symm
        intro L hall hG
        clear hv hlen
        have HG := Lib.hid (hG.y (hall 8 (by decide)))
        have HGk := Lib.hid hG.k
        clear hG hall
        simp only [fill, if_true]
      --END
        simp [Act.put]
        have hk := HG.out
        have HKk := Lib.hid HGk.out
        subst hk
        clear HG HGk HSt Hc HPc HR HRb4 HBp
        go_wp2_with (fail)
        go_ret2
        exact ⟨rfl, HK4.out.drew⟩
end Go.Proofs.Ytefgahcadfmmoaa
